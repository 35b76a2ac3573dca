/- Walk: the law on turtles. Conditions: rows of bytes. -/
import Derived.Test.YtkldgcgijkfpaaaTur
import Derived.Test.YtkldgcgijkfpaaaHk
import Derived.Test.YtkldgcgijkfpaaaTut
import Derived.StillTailTactics
import Derived.Laws.ComplexArith
import Derived.Deep.CutRange
import Derived.BigQuiet
import Derived.Deep.QuietTactic
import Derived.Deep.RegionHeld3
namespace Go.Proofs.Ytkldgcgijkfpaaa
open Go.RowKit
open Num Quick
attribute [local go_sem] run_store_fl run_store_cx

set_option maxRecDepth 100000 in
theorem lawTu_long (A1 A2 : Option Addr) (n1 c1 n2 c2 : Nat) (w : World) (hn1 : n1 ≤ maxLen) (hn2 : n2 ≤ maxLen) (hbig : ¬ (n1 ≤ 48 ∧ n2 ≤ 48)) :
    Calls Try.prog 3 #[.slice A1 n1 c1, .slice A2 n2 c2] w fun e w' => e = .returned (.bool true) ∧ Below w.heap.size w w' := by
  have LC := r8Long_any A1 A2 n1 c1 n2 c2 w hn1 hn2
  rw [show (decide (48 < n1) || decide (48 < n2)) = true by simp; omega] at LC
  have LCH := Lib.hid LC
  clear LC
  go_enter Try.func3, Try.ntmps3
  go_wp2_with fail
  refine LCH.out.mono ?_
  rintro e w1 ⟨rfl, rfl⟩
  go_wp2
  go_ret
  exact ⟨rfl, Below.refl _ _⟩
theorem held_ct {fs : List Fact} {w : World} (h : Held fs w) (i : Nat) {B g n : Nat} {f : Nat → Nat × Nat} (hi : fs[i]? = some (.rd B 1 (some ⟨g, 0, none⟩) n ((List.range n).map (fun i => cxv (f i))))) {k : Nat} (hk : k < n) : w.cell? ⟨g, k, none⟩ = some (.complex .f32 (f k).1 (f k).2) := by
  obtain ⟨b, off, e, _, hc⟩ := (h.rd i hi).2 (by omega)
  injection e with e
  injection e with e1 e2
  subst e1 e2
  have := hc k _ (range_map_get (fun i => cxv (f i)) hk)
  simpa [cxv] using this
theorem c4s : Fl .f32 1082130432 ∧ Num.fv .f32 1082130432 = ((2 ^ 2 : Nat) : Rat) := by
  refine ⟨?_, ?_⟩
  · show (1082130432 : Nat) % FloatKind.f32.format.signWeight < FloatKind.f32.format.infRung
    decide +kernel
  · unfold Num.fv val rv p2
    decide +kernel
theorem rIntI (n : Int) : ∀ w : World, (convert 3 34 (.int .i64 n)).run Try.prog w = .ok (.float .f64 (floatOfInt .f64 n)) w := fun w => run_convert_int_float w _ _ _ _ _ (by rw [Try.underlying3]; rfl) Try.underlying34
set_option maxRecDepth 100000 in
set_option maxHeartbeats 100000000 in
theorem lawTu_any (A1 A2 : Option Addr) (n1 c1 n2 c2 : Nat) (bs bs2 : List Nat) (w : World) (hn1 : n1 ≤ 48) (hn2 : n2 ≤ 48) (hc1 : n1 ≤ c1) (hc2 : n2 ≤ c2) (hbs : ∀ x ∈ bs, x < 256) (hbs2 : ∀ x ∈ bs2, x < 256) (hA : Rd w w.heap.size 1 A1 n1 (bs.map u8v)) (hA2 : Rd w w.heap.size 1 A2 n2 (bs2.map u8v)) :
    Calls Try.prog 3 #[.slice A1 n1 c1, .slice A2 n2 c2] w fun e w' => e = .returned (.bool true) ∧ Below w.heap.size w w' := by
  have LC := r8Long_any A1 A2 n1 c1 n2 c2 w (by unfold maxLen; omega) (by unfold maxLen; omega)
  rw [show (decide (48 < n1) || decide (48 < n2)) = false by simp; omega] at LC
  have LCH := Lib.hid LC
  have hl2 : bs2.length = n2 := by have := hA2.len; simpa using this
  obtain ⟨k, hk, K1⟩ := r8At_val A2 n2 c2 0 12 bs2 hl2 (by omega) (by omega) (by omega) (by omega) hbs2
  obtain ⟨y8, hy8, K2⟩ := r8At_val A2 n2 c2 1 8 bs2 hl2 (by omega) (by omega) (by omega) (by omega) hbs2
  have KT := Lib.hid K1
  have KS := Lib.hid K2
  obtain ⟨q, hq⟩ : ∃ q, 1 + y8 = q := ⟨_, rfl⟩
  have hqI : (1 : Int) + (y8 : Int) = (q : Int) := by omega
  have hq8 : q ≤ 8 := by omega
  have hq1 : 1 ≤ q := by omega
  have RW := Lib.hid (R8Word_ok n1 c1 A1 bs w (by omega) hc1 hbs hA)
  have RP := Lib.hid (fun w' (hb : Below w.heap.size w w') => R8Point_any n2 c2 A2 bs2 w' (by omega) hc2 hbs2 ((hA2.below hb).more hb.size))
  have AL2 := Lib.hid hA2
  clear LC hA hbs hA2 hbs2 hl2 K1 K2 hq
  go_enter Try.func3, Try.ntmps3
  go_wp2_with fail
  refine LCH.out.mono ?_
  rintro e w0 ⟨rfl, hw0⟩
  obtain rfl := hw0.symm
  clear LCH
  go_wp2_with fail
  refine RW.out.mono ?_
  rintro e w1 ⟨s, hs, rfl, hb1⟩
  have V1 := Lib.hid hb1
  have HS := Lib.hid hs
  have hs16 := hs.1
  have R1 := Lib.hid (AL2.out.below V1.out)
  obtain ⟨tq, tf, tp, _⟩ := Trn.tab_all hk
  rw [Quick.qbits_eq] at tq
  obtain ⟨st, st1, st2⟩ := gn_quo (q : Int) 2 _ c4s.1 c4s.2 (by omega) (by omega)
  obtain ⟨t, et⟩ : ∃ t, Trn.turnW k = t := ⟨_, rfl⟩
  have j1 := rInt32 (k : Int)
  have j2 := rInt32 (q : Int)
  have j3 := r32 tq
  have j4 := r32 st1
  have s0 : 0 ≤ Num.fv .f32 st := by
    rw [st2.val, Rat.div_def]
    exact Rat.mul_nonneg (by show (0 : Rat) ≤ ((q : Nat) : Rat); exact Rat.natCast_nonneg) (by decide +kernel)
  have s2 : Num.fv .f32 st ≤ 2 := by
    rw [st2.val, Rat.div_def]
    have h8 := Rat.natCast_le_natCast.2 hq8
    have e8 : ((8 : Nat) : Rat) = 8 := rfl
    rw [e8] at h8
    have m := Rat.mul_le_mul_of_nonneg_right h8 (show (0 : Rat) ≤ ((2 ^ 2 : Nat) : Rat)⁻¹ by decide +kernel)
    exact Rat.le_trans m (by decide +kernel)
  have RUN := run_one hs hk st2.fin rfl s0 s2
  have WI := (run_inv hs hk st2.fin rfl s0 s2 s.size (Nat.le_refl _)).1
  have RUN2 := run_two hs RUN
  obtain ⟨cb1, cb2⟩ := WI.cbs s0 s2 hs16
  rw [et] at j3 tf tp RUN WI RUN2 cb1 cb2
  obtain ⟨S, eS⟩ : ∃ S, runS t st s.data.toList = S := ⟨_, rfl⟩
  rw [eS] at RUN WI RUN2 cb1 cb2
  have TL := Lib.hid (fun w' => TurtleLine_ok s t st S w' hs RUN tf st2.fin cb1 cb2)
  have T1 := Lib.hid (fun w' => TurtleTwigs_ok s t st S w' (by omega) RUN tf st2.fin cb1 cb2)
  obtain ⟨re1, re2⟩ := runT_end s.size S
  rw [← twice_size] at re1 re2
  have T2 := Lib.hid (fun w' => TurtleTwigs_ok (B := 33) (twice s) t st (runT s.size S) w' (by rw [twice_size]; omega) RUN2 tf st2.fin (by rw [re1]; exact fun z hz => (List.mem_append.1 hz).elim (cb1 z) (cb1 z)) (by rw [re2]; exact fun z hz => (List.mem_append.1 hz).elim (cb2 z) (cb2 z)))
  rw [re1, re2] at T2
  have RR := Lib.hid WI.rows
  have RN := Lib.hid RUN
  obtain ⟨Z, eZ⟩ : ∃ Z, S s.size = Z := ⟨_, rfl⟩
  rw [eZ] at TL T1 T2 RR WI
  have HZ := Lib.hid eZ
  obtain ⟨m, hm⟩ : ∃ m, Z.en.length = m := ⟨_, rfl⟩
  have hm16 : m ≤ 16 := by have := WI.le; omega
  rw [hm] at RR
  have WY := WI.way
  rw [hm] at WY
  obtain ⟨P, eP⟩ : ∃ P, plc Z = P := ⟨_, rfl⟩
  rw [eP] at RR WY
  have HW := Lib.hid WY
  have HM := Lib.hid hm
  have HST := Lib.hid (show Gn 2 (q : Int) st ∧ 0 ≤ Num.fv .f32 st ∧ Num.fv .f32 st ≤ 2 from ⟨st2, s0, s2⟩)
  have HTP := Lib.hid (show Fl .f32 t ∧ Trn.phOk t = true from ⟨tf, tp⟩)
  clear tq tf tp st1 et st2 s0 s2 RUN WI RUN2 cb1 cb2 eS re1 re2 eZ hm WY eP RW hs hb1
  go_wp2_with fail
  refine (KT.out w.heap.size w1 R1.out).mono ?_
  rintro e w2 ⟨rfl, hw2⟩
  obtain rfl := hw2.symm
  clear KT
  go_wp2_with fail
  refine (KS.out w.heap.size w1 R1.out).mono ?_
  rintro e w2 ⟨rfl, hw2⟩
  obtain rfl := hw2.symm
  clear KS R1 AL2
  go_wp2_with fail
  refine (TL.out _).mono ?_
  rintro e w2 ⟨gl, cl, m', hm', rfl, ho, hb⟩
  obtain rfl : m = m' := by rw [hm']; exact HM.out.symm
  clear hm'
  rw [RR.out.line] at ho
  obtain ⟨l, hl⟩ : ∃ l, 1 + m = l := ⟨_, rfl⟩
  rw [hl] at ho ⊢
  have hlI : (m : Int) + 1 = (l : Int) := by omega
  have hml : m < l := by omega
  have hl17 : l ≤ 17 := by omega
  have HL := Lib.hid hl
  have S2 : Hid (Held [.rd w2.heap.size 1 (some ⟨gl, 0, none⟩) l ((List.range l).map (fun i => cxv (P i))), .low w] w2) := Lib.hid (((Held.nil _).put (f := .low w) ⟨(V1.out.trans (hb.mono V1.out.size)).size, V1.out.trans (hb.mono V1.out.size)⟩).put (Held.of_own ho))
  obtain ⟨B2, eB2⟩ : ∃ B, w2.heap.size = B := ⟨_, rfl⟩
  rw [eB2] at S2
  clear ho hb TL V1 hl eB2
  go_wp2_with fail
  refine (T1.out _).mono ?_
  rintro e w3 ⟨ga, ca, gb, cb, q3, hq3, rfl, ha, hb, -, hbl⟩
  obtain rfl : m = q3 := by rw [hq3]; exact HM.out.symm
  rw [RR.out.from_] at ha
  rw [RR.out.to_] at hb
  have S3 : Hid (Held [.rd w3.heap.size 1 (some ⟨gb, 0, none⟩) m ((List.range m).map (fun i => cxv (P (i + 1)))), .rd w3.heap.size 1 (some ⟨ga, 0, none⟩) m ((List.range m).map (fun i => cxv (P i))), .rd B2 1 (some ⟨gl, 0, none⟩) l ((List.range l).map (fun i => cxv (P i))), .low w] w3) := Lib.hid (((S2.out.below hbl).put (Held.of_own ha)).put (Held.of_own hb))
  obtain ⟨B3, eB3⟩ : ∃ B, w3.heap.size = B := ⟨_, rfl⟩
  rw [eB3] at S3
  clear ha hb hbl hq3 T1 S2 eB3
  unfold twice at T2
  go_wp2_with fail
  refine (T2.out _).mono ?_
  rintro e w4 ⟨gc, cc, gd, cd, q4, hq4, rfl, ha, hb, -, hbl⟩
  obtain ⟨m2, em2⟩ : ∃ x, 2 * m = x := ⟨_, rfl⟩
  obtain rfl : m2 = q4 := by rw [hq4, List.length_append, HM.out]; omega
  rw [RR.out.both, em2] at ha
  rw [RR.out.ends, em2] at hb
  have hm2I : 2 * (m : Int) = (m2 : Int) := by omega
  have S4 : Hid (Held [.rd w4.heap.size 1 (some ⟨gd, 0, none⟩) m2 ((List.range m2).map (fun i => cxv (P (half m i + 1)))), .rd w4.heap.size 1 (some ⟨gc, 0, none⟩) m2 ((List.range m2).map (fun i => cxv (P (half m i)))), .rd B3 1 (some ⟨gb, 0, none⟩) m ((List.range m).map (fun i => cxv (P (i + 1)))), .rd B3 1 (some ⟨ga, 0, none⟩) m ((List.range m).map (fun i => cxv (P i))), .rd B2 1 (some ⟨gl, 0, none⟩) l ((List.range l).map (fun i => cxv (P i))), .low w] w4) := Lib.hid (((S3.out.below hbl).put (Held.of_own ha)).put (Held.of_own hb))
  obtain ⟨B4, eB4⟩ : ∃ B, w4.heap.size = B := ⟨_, rfl⟩
  rw [eB4] at S4
  have EM2 := Lib.hid em2
  clear ha hb hbl hq4 T2 S3 eB4 em2
  obtain ⟨pw, sm, LS, fL, nL⟩ := len_facts HW.out HST.out.2.1 HST.out.2.2 hm16
  rw [Nat.add_comm m 1, HL.out] at LS fL nL
  have CBP : Hid (∀ j, j < l → Cb 33 (P j)) := Lib.hid fun j hj => HW.out.cb HST.out.2.1 HST.out.2.2 hm16 j (by have := HL.out; omega)
  have LO := Lib.hid (tLongOfLine_ok (f := P) l (some ⟨gl, 0, none⟩) cl w4 (by have := HL.out; omega) (by omega) CBP.out LS fL (S4.out.rd 4 rfl))
  obtain ⟨L, eL⟩ : ∃ L, sm l = L := ⟨_, rfl⟩
  rw [eL] at LO fL nL
  have NL := Lib.hid (And.intro fL nL)
  clear LS eL fL nL
  go_wp2_with fail
  refine LO.out.mono ?_
  rintro e w5 ⟨rfl, hb5⟩
  have S5 := Lib.hid (S4.out.below hb5)
  clear hb5 LO S4
  have hl16 := HM
  go_wp2
  go_loopw [18, 19] (fun sm si wr => ∃ i : Nat, si = .int .i64 (i : Int) ∧ i ≤ s.size ∧ sm = .int .i64 (((S i).en.length : Nat) : Int) ∧ wr = w5) (fun _ si _ => s.size - (intOf si).toNat)
  case atStart => exact ⟨0, rfl, Nat.zero_le _, by rw [RN.out.zero]; rfl, rfl⟩
  case round =>
    obtain ⟨i, rfl, hi, rfl, hwr⟩ := hrel
    obtain rfl := hwr.symm
    by_cases hlt : i < s.size
    · have hii : (i : Int) < (s.size : Int) := by omega
      have hst := RN.out.step i hlt
      have hle := (RN.out.len i hi).2
      have hlb := (RN.out.len i hi).1
      obtain ⟨b, eb⟩ : ∃ b, s[i] = b := ⟨_, rfl⟩
      have hbn : s[i].toNat = b.toNat := by rw [eb]
      have hL : Ltr b := by
        rw [← eb]
        exact HS.out.2 _ (by rw [byte_at s i hlt 88, List.getD_eq_getElem?_getD, List.getElem?_eq_getElem (by simpa using hlt)]; exact List.getElem_mem _)
      rw [eb] at hst
      obtain ⟨Zi, eZi⟩ : ∃ Z, S i = Z := ⟨_, rfl⟩
      obtain ⟨Zj, eZj⟩ : ∃ Z, S (i + 1) = Z := ⟨_, rfl⟩
      rw [eZi] at hst hle hlb ⊢
      rw [eZj] at hst
      have EJ := Lib.hid eZj
      clear eb eZi eZj
      cases hst with
      | @move _ p p' x d' a c u v B E hb hph hu hv h1 h2 =>
        have hE : E.length ≤ 40 := by dsimp only at hle hlb; omega
        clear hph hu hv h1 h2 hL hle hlb
        dsimp only
        rcases hb with rfl | rfl
        all_goals
          go_wp2
          go_roundw
          case rel => exact ⟨i + 1, by go_num, by omega, by rw [EJ.out]; simp, trivial⟩
          case measure => simp [intOf]; omega
      | plus h =>
        clear h hL hle hlb
        go_wp2
        go_roundw
        case rel => exact ⟨i + 1, by go_num, by omega, by rw [EJ.out], trivial⟩
        case measure => simp [intOf]; omega
      | minus h =>
        clear h hL hle hlb
        go_wp2
        go_roundw
        case rel => exact ⟨i + 1, by go_num, by omega, by rw [EJ.out], trivial⟩
        case measure => simp [intOf]; omega
      | push h => rcases hL with h | h | h | h | h <;> cases h
      | pop => rcases hL with h | h | h | h | h <;> cases h
      | other =>
        clear hL hle hlb
        go_wp2
        go_roundw
        case rel => exact ⟨i + 1, by go_num, by omega, by rw [EJ.out], trivial⟩
        case measure => simp [intOf]; omega
    · obtain rfl : s.size = i := by omega
      rw [HZ.out, HM.out]
      clear hl16
      obtain ⟨X, sw, tw, g, x1, s1, t1, G1, k1⟩ := steps_law NL.out.1 HST.out.1 hq8 hm16 (in_le NL.out.2 (by decide +kernel))
      have f1 := rWide x1
      have f2 := rWide s1
      have f3 := r64 t1
      have f4 := rIntI (m : Int)
      have GP := Lib.hid G1
      clear x1 s1 t1 G1 j1 j2 j3 j4
      go_wp2_with fail
      refine (GP.out _).mono ?_
      rintro e w6 ⟨rfl, hw6⟩
      obtain rfl := hw6.symm
      clear GP
      go_wp2
      go_loopw [20] (fun sk wr => ∃ i : Nat, sk = .int .i64 (i : Int) ∧ i ≤ m ∧ Hid (Held [.rd B4 1 (some ⟨gd, 0, none⟩) m2 ((List.range m2).map (fun i => cxv (P (half m i + 1)))), .rd B4 1 (some ⟨gc, 0, none⟩) m2 ((List.range m2).map (fun i => cxv (P (half m i)))), .rd B3 1 (some ⟨gb, 0, none⟩) m ((List.range m).map (fun i => cxv (P (i + 1)))), .rd B3 1 (some ⟨ga, 0, none⟩) m ((List.range m).map (fun i => cxv (P i))), .rd B2 1 (some ⟨gl, 0, none⟩) l ((List.range l).map (fun i => cxv (P i))), .low w] wr)) (fun sk _ => m - (intOf sk).toNat)
      case atStart => exact ⟨0, rfl, Nat.zero_le _, S5⟩
      case round =>
        clear S5 f1 f2 f3 f4 k1
        obtain ⟨i, rfl, hi, S6⟩ := hrel
        by_cases hlt : i < m
        · as_aux_lemma =>
            have hii : (i : Int) < (m : Int) := by omega
            have hi0 : (0 : Int) ≤ (i : Int) := by omega
            obtain ⟨i1, hi1⟩ : ∃ x, i + 1 = x := ⟨_, rfl⟩
            obtain ⟨mi, hmi⟩ : ∃ x, m + i = x := ⟨_, rfl⟩
            have hil : i < l := by have := HL.out; omega
            have hi1l : i1 < l := by have := HL.out; omega
            have him2 : i < m2 := by have := EM2.out; omega
            have hmim2 : mi < m2 := by have := EM2.out; omega
            have hw1 : IntKind.i64.wrap ((i : Int) + 1) = (i1 : Int) := by rw [show (i : Int) + 1 = (i1 : Int) by omega]; exact IntWalk.i64_in _ (by omega)
            have hw2 : IntKind.i64.wrap ((m : Int) + (i : Int)) = (mi : Int) := by rw [show (m : Int) + (i : Int) = (mi : Int) by omega]; exact IntWalk.i64_in _ (by omega)
            have b1 : (i : Int) < (l : Int) := by omega
            have b2 : (i1 : Int) < (l : Int) := by omega
            have b3 : (i : Int) < (m2 : Int) := by omega
            have b4 : (mi : Int) < (m2 : Int) := by omega
            have b5 : (0 : Int) ≤ (i1 : Int) := by omega
            have b6 : (0 : Int) ≤ (mi : Int) := by omega
            have cA := held_ct S6.out 3 rfl hlt
            have cL := held_ct S6.out 4 rfl hil
            have cB := held_ct (f := fun i => P (i + 1)) S6.out 2 rfl hlt
            have cM := held_ct S6.out 4 rfl hi1l
            have cC := held_ct (f := fun i => P (half m i)) S6.out 1 rfl him2
            have cD := held_ct (f := fun i => P (half m i)) S6.out 1 rfl hmim2
            have cE := held_ct (f := fun i => P (half m i + 1)) S6.out 0 rfl him2
            have cF := held_ct (f := fun i => P (half m i + 1)) S6.out 0 rfl hmim2
            have h1 : half m i = i := by unfold half; rw [if_pos hlt]
            have h2 : half m mi = i := by unfold half; rw [if_neg (by omega)]; omega
            try simp only at cB cC cD cE cF
            rw [hi1] at cB
            rw [h1] at cC cE
            rw [h2] at cD cF
            rw [hi1] at cE cF
            have SA := Lib.hid (fun w => tsame_self (CBP.out i hil).1 (CBP.out i hil).2.1 w)
            have SB := Lib.hid (fun w => tsame_self (CBP.out i1 hi1l).1 (CBP.out i1 hi1l).2.1 w)
            obtain ⟨p, ep⟩ : ∃ p, P i = p := ⟨_, rfl⟩
            obtain ⟨p', ep'⟩ : ∃ p, P i1 = p := ⟨_, rfl⟩
            rw [ep] at cA cL cC cD SA
            rw [ep'] at cB cM cE cF SB
            obtain ⟨p1, p2⟩ := p
            obtain ⟨p3, p4⟩ := p'
            simp only at cA cL cC cD SA cB cM cE cF SB
            clear hi1 hmi h1 h2 ep ep'
            go_wp2
            go_quiet (first
              | (go_at_call 12; with_reducible exact Calls.quiet_of_same (SA.out _))
              | (go_at_call 12; with_reducible exact Calls.quiet_of_same (SB.out _)))
            generalize hw : World.drewN wr _ = w8
            have S8 : Hid (Held _ w8) := Lib.hid (S6.out.below (by rw [← hw]; exact ⟨rfl, rfl, rfl, Nat.le_refl _, fun _ _ => rfl⟩))
            clear hw cA cL cC cD SA cB cM cE cF SB hw1 hw2 b1 b2 b3 b4 b5 b6 S6
            go_wp2
            go_roundw
            case rel => exact ⟨i + 1, by go_num, by omega, S8⟩
            case measure => simp [intOf]; omega
        · have hii : ¬ (i : Int) < (m : Int) := by omega
          have S7 : Hid (Held [.rd B2 1 (some ⟨gl, 0, none⟩) l ((List.range l).map (fun i => cxv (P i))), .low w] wr) := Lib.hid fun f hf => S6.out f (by simp only [List.mem_cons, List.not_mem_nil, or_false] at hf ⊢; rcases hf with h | h <;> simp [h])
          clear S6 EM2
          go_wp2_with fail
          refine (RP.out _ (S7.out.low 1 rfl).2).mono ?_
          rintro e w7 ⟨bx, by_, hbx, hby, rfl, hb7⟩
          have S8 := Lib.hid (S7.out.below hb7)
          clear hb7 S7 RP
          have X1 := (ew_ok hbx).2
          have Y1 := (ew_ok hby).2
          have X2 := (tew_cb2 hbx).2
          have Y2 := (tew_cb2 hby).2
          obtain ⟨b1, eb1⟩ : ∃ b, ew bx = b := ⟨_, rfl⟩
          obtain ⟨b2, eb2⟩ : ∃ b, ew by_ = b := ⟨_, rfl⟩
          rw [eb1] at X1 X2 ⊢
          rw [eb2] at Y1 Y2 ⊢
          have HB := Lib.hid (show Gn 3 bx b1 ∧ Gn 3 by_ b2 ∧ bx.natAbs ≤ 16 ∧ by_.natAbs ≤ 16 ∧ InR (Num.fv .f32 b1) 2 ∧ InR (Num.fv .f32 b2) 2 from ⟨X1, Y1, hbx, hby, X2, Y2⟩)
          clear X1 Y1 X2 Y2 eb1 eb2 hbx hby
          obtain ⟨Q, pwQ, smQ, hQ1, hQ2, hQ3, LQ, fQ, nQ⟩ := moved_facts HW.out HST.out.2.1 HST.out.2.2 hm16 HB.out.1.fin HB.out.2.1.fin HB.out.2.2.2.2.1 HB.out.2.2.2.2.2
          obtain ⟨pa, pc, hph, hun⟩ := Trn.ph_of HTP.out.2
          obtain ⟨r1, r2, T, pwT, smT, sd, sn, A, sd', sn', D, u1, u2, hT1, hT2, LT, fT, nT, AP, AT, ar1, ar2, ar3⟩ := turned_facts HW.out HST.out.2.1 HST.out.2.2 hm16 hun
          rw [HL.out] at hQ1 hQ2 hQ3 LQ fQ nQ hT1 hT2 LT fT AP AT
          rw [HL.out] at nT
          have hl1 : 1 ≤ l := by have := HL.out; omega
          have two32 : Fl .f32 1073741824 := by
            show (1073741824 : Nat) % FloatKind.f32.format.signWeight < FloatKind.f32.format.infRung
            decide +kernel
          have MV := Lib.hid (MoveLine_ok (B := 33) (B' := 36) P Q b1 b2 (some ⟨gl, 0, none⟩) l cl w7 (by omega) CBP.out hQ3 HB.out.1.fin HB.out.2.1.fin hQ1 hQ2 (S8.out.rd 0 rfl))
          have TN := Lib.hid (fun w' (hR : Rd w' w'.heap.size 1 (some ⟨gl, 0, none⟩) l ((List.range l).map (fun i => cxv (P i)))) => TurnLine_ok (B := 33) (B' := 70) P T t 1073741824 pa pc r1 r2 (some ⟨gl, 0, none⟩) l cl w' (by omega) CBP.out hT2 HTP.out.1 two32 hph u1 u2 hT1 hR)
          have LM := Lib.hid (fun w' g c (hR : Rd w' w'.heap.size 1 (some ⟨g, 0, none⟩) l ((List.range l).map (fun i => cxv (Q i)))) => tLongOfLine_ok (f := Q) l (some ⟨g, 0, none⟩) c w' hl1 (by omega) hQ3 LQ fQ hR)
          have LTn := Lib.hid (fun w' g c (hR : Rd w' w'.heap.size 1 (some ⟨g, 0, none⟩) l ((List.range l).map (fun i => cxv (T i)))) => tLongOfLine_ok (f := T) l (some ⟨g, 0, none⟩) c w' hl1 (by omega) hT2 LT fT hR)
          have A1 := Lib.hid (fun w' (hR : Rd w' w'.heap.size 1 (some ⟨gl, 0, none⟩) l ((List.range l).map (fun i => cxv (P i)))) => LoopArea_ok (f := P) l (some ⟨gl, 0, none⟩) cl w' hl1 (by omega) CBP.out AP hR)
          have A2 := Lib.hid (fun w' g c (hR : Rd w' w'.heap.size 1 (some ⟨g, 0, none⟩) l ((List.range l).map (fun i => cxv (T i)))) => LoopArea_ok (f := T) l (some ⟨g, 0, none⟩) c w' hl1 (by omega) hT2 AT hR)
          have SPN := Lib.hid (fun w' (hR : Rd w' w'.heap.size 1 (some ⟨gl, 0, none⟩) l ((List.range l).map (fun i => cxv (P i)))) => SpanOf_ok (f := P) l (some ⟨gl, 0, none⟩) cl w' hl1 (by omega) CBP.out hR)
          obtain ⟨LQl, eQl⟩ : ∃ x, smQ l = x := ⟨_, rfl⟩
          obtain ⟨LTl, eTl⟩ : ∃ x, smT l = x := ⟨_, rfl⟩
          rw [eQl] at LM fQ nQ
          rw [eTl] at LTn fT nT
          have nL1 := NL.out.2
          have hms : InR ((m : Rat) * Num.fv .f32 st) 33 := by
            have h0 := Rat.mul_nonneg (show (0 : Rat) ≤ (m : Rat) from Rat.natCast_nonneg) HST.out.2.1
            have h1 := many_le hm16 HST.out.2.1 (B := 32) (by have := HST.out.2.2; grind)
            unfold InR
            constructor <;> grind
          obtain ⟨X, Y, g1, x1, y1, G1, k1⟩ := moved_law NL.out.1 fQ (by obtain ⟨z1, z2⟩ := nL1; obtain ⟨z3, z4⟩ := nQ; unfold InR; constructor <;> grind)
          obtain ⟨X', Y', tw2, g2, x1', y2, t2, G2, k2⟩ := doubled_law NL.out.1 fT (by obtain ⟨z1, z2⟩ := nL1; obtain ⟨z3, z4⟩ := hms; unfold InR; constructor <;> grind) (by obtain ⟨z1, z2⟩ := nL1; obtain ⟨z3, z4⟩ := nT; unfold InR; constructor <;> grind)
          obtain rfl : X = X' := Option.some.inj (x1.symm.trans x1')
          obtain ⟨Ca, Da, ta, g3, g4, oa, pa2, za, y3, y4, t3, G3, G4, t4, t5, t6, k3⟩ := areas_law AP.fin AT.fin ar1 ar2 ar3
          have f1 := rWide x1
          have f2 := rWide y1
          have f3 := rWide y2
          have f4 := r64 t2
          have f5 := rWide y3
          have f6 := rWide y4
          have f7 := r64 t3
          have f8 := r64 t4
          have f9 := r64 t5
          have f10 := r64 t6
          have GP1 := Lib.hid G1
          have GP2 := Lib.hid G2
          have GP3 := Lib.hid G3
          have GP4 := Lib.hid G4
          clear hQ1 hQ2 hQ3 LQ fQ nQ hph hun u1 u2 hT1 hT2 LT fT nT AP AT ar1 ar2 ar3 eQl eTl nL1 hms x1 y1 G1 x1' y2 t2 G2 y3 y4 t3 G3 G4 t4 t5 t6 two32
          go_wp2_with fail
          refine MV.out.mono ?_
          rintro e w8 ⟨gm, cm, rfl, hom, hb8⟩
          have S9 : Hid (Held [.rd w8.heap.size 1 (some ⟨gm, 0, none⟩) l ((List.range l).map (fun i => cxv (Q i))), .rd B2 1 (some ⟨gl, 0, none⟩) l ((List.range l).map (fun i => cxv (P i))), .low w] w8) := Lib.hid ((S8.out.below hb8).put (Held.of_own hom))
          clear hom hb8 MV S8
          go_wp2_with fail
          refine (TN.out _ (S9.out.rd 1 rfl)).mono ?_
          rintro e w9 ⟨gt, ct, rfl, hot, hb9⟩
          have S10 : Hid (Held [.rd w9.heap.size 1 (some ⟨gt, 0, none⟩) l ((List.range l).map (fun i => cxv (T i))), .rd w8.heap.size 1 (some ⟨gm, 0, none⟩) l ((List.range l).map (fun i => cxv (Q i))), .rd B2 1 (some ⟨gl, 0, none⟩) l ((List.range l).map (fun i => cxv (P i))), .low w] w9) := Lib.hid ((S9.out.below hb9).put (Held.of_own hot))
          clear hot hb9 TN S9
          go_wp2_with fail
          refine (LM.out _ _ _ (S10.out.rd 1 rfl)).mono ?_
          rintro e w10 ⟨rfl, hb10⟩
          have S11 := Lib.hid (S10.out.below hb10)
          clear hb10 S10 LM
          go_wp2_with fail
          refine (LTn.out _ _ _ (S11.out.rd 0 rfl)).mono ?_
          rintro e w11 ⟨rfl, hb11⟩
          have S12 := Lib.hid (S11.out.below hb11)
          clear hb11 S11 LTn
          go_wp2_with fail
          refine (A1.out _ (S12.out.rd 2 rfl)).mono ?_
          rintro e w12 ⟨rfl, hb12⟩
          have S13 := Lib.hid (S12.out.below hb12)
          clear hb12 S12 A1
          go_wp2_with fail
          refine (A2.out _ _ _ (S13.out.rd 0 rfl)).mono ?_
          rintro e w13 ⟨rfl, hb13⟩
          have S14 := Lib.hid (S13.out.below hb13)
          clear hb13 S13 A2
          go_wp2_with fail
          refine (SPN.out _ (S14.out.rd 2 rfl)).mono ?_
          rintro e w14 ⟨la, lb, ha_, hb_, rfl, hsp, hb14⟩
          have S15 := Lib.hid (S14.out.below hb14)
          have SP := Lib.hid hsp
          clear hb14 S14 SPN hsp
          go_wp2_with fail
          refine (GP1.out _).mono ?_
          rintro e w15 ⟨rfl, hw15⟩
          obtain rfl := hw15.symm
          clear GP1
          go_wp2_with fail
          refine (GP2.out _).mono ?_
          rintro e w15 ⟨rfl, hw15⟩
          obtain rfl := hw15.symm
          clear GP2
          go_wp2_with fail
          refine (GP3.out _).mono ?_
          rintro e w15 ⟨rfl, hw15⟩
          obtain rfl := hw15.symm
          clear GP3
          go_wp2_with fail
          refine (GP4.out _).mono ?_
          rintro e w15 ⟨rfl, hw15⟩
          obtain rfl := hw15.symm
          clear GP4
          go_wp2
          go_loopw [37] (fun sk wr => ∃ i : Nat, sk = .int .i64 (i : Int) ∧ i ≤ l ∧ wr = w14) (fun sk _ => l - (intOf sk).toNat)
          case atStart => exact ⟨0, rfl, Nat.zero_le _, rfl⟩
          case round =>
            obtain ⟨i, rfl, hi, hwr⟩ := hrel
            obtain rfl := hwr.symm
            clear f1 f2 f3 f4 f5 f6 f7 f8 f9 f10 k1 k2 k3
            by_cases hlt : i < l
            · as_aux_lemma =>
                have hii : (i : Int) ≤ (m : Int) := by have := HL.out; omega
                have hil : (i : Int) < (l : Int) := by omega
                have hi0 : (0 : Int) ≤ (i : Int) := by omega
                have cP := held_ct S15.out 2 rfl hlt
                have C := CBP.out i hlt
                have q1 := not_lt_cmp C.1 SP.out.fa (SP.out.lo1 i hlt)
                have q2 := not_lt_cmp C.2.1 SP.out.fb (SP.out.lo2 i hlt)
                have q3 := (le_cmp C.1 SP.out.fc (SP.out.hi1 i hlt)).2
                have q4 := (le_cmp C.2.1 SP.out.fd (SP.out.hi2 i hlt)).2
                obtain ⟨p, ep⟩ : ∃ p, P i = p := ⟨_, rfl⟩
                rw [ep] at cP q1 q2 q3 q4
                obtain ⟨p1, p2⟩ := p
                simp only at cP q1 q2 q3 q4
                clear C ep
                go_wp2
                go_roundw
                case rel => exact ⟨i + 1, by go_num, by omega, trivial⟩
                case measure => simp [intOf]; omega
            · have hii : ¬ (i : Int) ≤ (m : Int) := by have := HL.out; omega
              have S16 : Hid (Held [.rd B2 1 (some ⟨gl, 0, none⟩) l ((List.range l).map (fun i => cxv (P i))), .low w] w14) := Lib.hid fun f hf => S15.out f (by simp only [List.mem_cons, List.not_mem_nil, or_false] at hf ⊢; rcases hf with h | h <;> simp [h])
              clear S15 SP
              by_cases hm0 : m = 0
              · have hmI : ((m : Int) == 0) = true := by simp; omega
                go_wp2
                go_ret
                exact ⟨rfl, (S16.out.low 1 rfl).2⟩
              · have hmI : ((m : Int) == 0) = false := by simp; omega
                have hml' : m < l := by have := HL.out; omega
                have hmlI : (m : Int) < (l : Int) := by omega
                have hm0I : (0 : Int) ≤ (m : Int) := by omega
                have cm := held_ct S16.out 0 rfl hml'
                have CM := CBP.out m hml'
                obtain ⟨r, z, LT, z1, hz⟩ := tail_law CM.1 CM.2.1 CM.2.2.1 CM.2.2.2
                have LTH := Lib.hid LT
                have f1 := rWide z1
                have HZZ := Lib.hid hz
                clear LT z1 hz CM
                go_wp2_with fail
                refine (LTH.out _).mono ?_
                rintro e w15 ⟨rfl, hw15⟩
                obtain rfl := hw15.symm
                clear LTH
                rcases HZZ.out with h | ⟨h, hfar⟩
                · go_wp2
                  go_ret
                  exact ⟨rfl, (S16.out.low 1 rfl).2⟩
                · obtain ⟨t1, t2, u1, u2, d1, d2, q1, q2, H, a1, a2, ft1, ft2, a3, a4, a5, a6, hQ, hX, hC, ⟨v1, v2, rr, zz, k1, k2, LO1, k3, k4⟩, ⟨v3, v4, v5, v6, rs, zs, k5, k6, k7, k8, LO2, k9, k10⟩⟩ := fit_ex HW.out HST.out.2.1 HST.out.2.2 hm16 HB.out.1 HB.out.2.1 HB.out.2.2.1 HB.out.2.2.2.1 HB.out.2.2.2.2.1 HB.out.2.2.2.2.2 hfar
                  have hml1 : m + 1 = l := by have := HL.out; omega
                  rw [hml1] at hX hC
                  have FT := Lib.hid (FitLine_ok (B := 33) (B' := 1000000) P H b1 b2 t1 t2 u1 u2 d1 d2 q1 q2 (0, 0) (P m) (some ⟨gl, 0, none⟩) l m cl w14 (by omega) (by omega) hml1 CBP.out hC HB.out.1.fin HB.out.2.1.fin ft1 ft2 HW.out.zero rfl a3 a4 a5 a6 hQ hX (S16.out.rd 0 rfl))
                  obtain ⟨p0, ep0⟩ : ∃ p, H 0 = p := ⟨_, rfl⟩
                  obtain ⟨pm, epm⟩ : ∃ p, H m = p := ⟨_, rfl⟩
                  rw [ep0] at k1 k2
                  rw [epm] at k5 k6
                  obtain ⟨h1, h2⟩ := p0
                  obtain ⟨h3, h4⟩ := pm
                  have e1 : ∀ w : World, (binOp .add 37 (.complex .f32 b1 b2) (.complex .f32 1065353216 0)).run Try.prog w = .ok (.complex .f32 t1 t2) w := fun w => run_complex_sum w .add (.inl rfl) _ .f32 _ _ _ _ _ _ (by unfold cSumBits; rw [a1, a2]; rfl)
                  have e2 : ∀ w : World, (binOp .sub 37 (.complex .f32 h1 h2) (.complex .f32 b1 b2)).run Try.prog w = .ok (.complex .f32 v1 v2) w := fun w => run_complex_sum w .sub (.inr rfl) _ .f32 _ _ _ _ _ _ (by unfold cSumBits; rw [k1, k2]; rfl)
                  have e3 : ∀ w : World, (binOp .sub 37 (.complex .f32 h3 h4) (.complex .f32 b1 b2)).run Try.prog w = .ok (.complex .f32 v3 v4) w := fun w => run_complex_sum w .sub (.inr rfl) _ .f32 _ _ _ _ _ _ (by unfold cSumBits; rw [k5, k6]; rfl)
                  have e4 : ∀ w : World, (binOp .sub 37 (.complex .f32 v3 v4) (.complex .f32 1065353216 0)).run Try.prog w = .ok (.complex .f32 v5 v6) w := fun w => run_complex_sum w .sub (.inr rfl) _ .f32 _ _ _ _ _ _ (by unfold cSumBits; rw [k7, k8]; rfl)
                  have f2 := rWide k3
                  have f3 := rWide k9
                  have L1 := Lib.hid LO1
                  have L2 := Lib.hid LO2
                  have E0 := Lib.hid ep0
                  have EM := Lib.hid epm
                  have hl0 : 0 < l := by omega
                  have hl0I : (0 : Int) < (l : Int) := by omega
                  clear a1 a2 ft1 ft2 a3 a4 a5 a6 hQ hX hC k1 k2 k3 k5 k6 k7 k8 k9 LO1 LO2 ep0 epm hfar HZZ hml1
                  go_wp2_with fail
                  refine FT.out.mono ?_
                  rintro e w16 ⟨gf, cf, rfl, hof, hb16⟩
                  have S17 : Hid (Held [.rd w16.heap.size 1 (some ⟨gf, 0, none⟩) l ((List.range l).map (fun i => cxv (H i))), .rd B2 1 (some ⟨gl, 0, none⟩) l ((List.range l).map (fun i => cxv (P i))), .low w] w16) := Lib.hid ((S16.out.below hb16).put (Held.of_own hof))
                  clear hof hb16 FT S16 cm
                  have cA := held_ct S17.out 0 rfl hl0
                  have cB := held_ct S17.out 0 rfl hml'
                  rw [E0.out] at cA
                  rw [EM.out] at cB
                  try simp only at cA cB
                  go_wp2_with fail
                  refine (L1.out _).mono ?_
                  rintro e w17 ⟨rfl, hw17⟩
                  obtain rfl := hw17.symm
                  clear L1
                  go_wp2_with fail
                  refine (L2.out _).mono ?_
                  rintro e w17 ⟨rfl, hw17⟩
                  obtain rfl := hw17.symm
                  clear L2
                  go_wp2
                  go_ret
                  exact ⟨rfl, (S17.out.low 2 rfl).2⟩
end Go.Proofs.Ytkldgcgijkfpaaa
