/- Walk: the law on periods. Conditions: rows of bytes. -/
import Derived.Test.YtjmidicidgaapaaYm
import Derived.Test.YtjmidicidgaapaaHk
import Derived.Test.YtjmidicidgaapaaLc
import Derived.Test.YtjmidicidgaapaaEa
import Derived.StillTailTactics
import Derived.Deep.CutRange
import Derived.BigQuiet
import Derived.Deep.QuietTactic
import Derived.Deep.RegionHeld3
namespace Go.Proofs.Ytjmidicidgaapaa
open Go.RowKit
open Num Quick Circ
attribute [local go_sem] run_store_fl run_store_cx

set_option maxRecDepth 100000 in
theorem lawPd_long (A1 A2 : Option Addr) (n1 c1 n2 c2 : Nat) (w : World) (hn1 : n1 ≤ maxLen) (hn2 : n2 ≤ maxLen) (hbig : ¬ (n1 ≤ 48 ∧ n2 ≤ 48)) :
    Calls Try.prog 3 #[.slice A1 n1 c1, .slice A2 n2 c2] w fun e w' => e = .returned (.bool true) ∧ Below w.heap.size w w' := by
  have LC := r8Long_any A1 A2 n1 c1 n2 c2 w hn1 hn2
  rw [show (decide (48 < n1) || decide (48 < n2)) = true by simp; omega] at LC
  have LCH := Lib.hid LC
  clear LC
  go_enter Try.func3, Try.ntmps3
  go_wp2_with fail
  refine LCH.out.mono ?_
  rintro e w1 ⟨rfl, rfl⟩
  go_wp2
  go_ret
  exact ⟨rfl, Below.refl _ _⟩
theorem held_cxp {fs : List Fact} {w : World} (h : Held fs w) (i : Nat) {B g n : Nat} {f : Nat → Nat × Nat} (hi : fs[i]? = some (.rd B 1 (some ⟨g, 0, none⟩) n ((List.range n).map (fun i => cxv (f i))))) {k : Nat} (hk : k < n) : w.cell? ⟨g, k, none⟩ = some (.complex .f32 (f k).1 (f k).2) := by
  obtain ⟨b, off, e, _, hc⟩ := (h.rd i hi).2 (by omega)
  injection e with e
  injection e with e1 e2
  subst e1 e2
  have := hc k _ (range_map_get (fun i => cxv (f i)) hk)
  simpa [cxv] using this
theorem rIntW (n : Int) : ∀ w : World, (convert 2 40 (.int .i64 n)).run Try.prog w = .ok (.float .f64 (fi n)) w := fun w => run_convert_int_float w _ _ _ _ _ (by rw [Try.underlying2]; rfl) Try.underlying40
set_option maxRecDepth 100000 in
set_option maxHeartbeats 100000000 in
theorem lawPd_any (A1 A2 : Option Addr) (n1 c1 n2 c2 : Nat) (bs bs2 : List Nat) (w : World) (hn1 : n1 ≤ 48) (hn2 : n2 ≤ 48) (hc1 : n1 ≤ c1) (hc2 : n2 ≤ c2) (hbs : ∀ x ∈ bs, x < 256) (hbs2 : ∀ x ∈ bs2, x < 256) (hA : Rd w w.heap.size 1 A1 n1 (bs.map u8v)) (hA2 : Rd w w.heap.size 1 A2 n2 (bs2.map u8v)) :
    Calls Try.prog 3 #[.slice A1 n1 c1, .slice A2 n2 c2] w fun e w' => e = .returned (.bool true) ∧ Below w.heap.size w w' := by
  have LC := r8Long_any A1 A2 n1 c1 n2 c2 w (by unfold maxLen; omega) (by unfold maxLen; omega)
  rw [show (decide (48 < n1) || decide (48 < n2)) = false by simp; omega] at LC
  have LCH := Lib.hid LC
  have hl2 : bs2.length = n2 := by have := hA2.len; simpa using this
  obtain ⟨kd, hkd, K1⟩ := r8At_val A2 n2 c2 0 4 bs2 hl2 (by omega) (by omega) (by omega) (by omega) hbs2
  obtain ⟨mo, hmo, M1⟩ := r8At_val A2 n2 c2 1 5 bs2 hl2 (by omega) (by omega) (by omega) (by omega) hbs2
  have KD := Lib.hid K1
  have MO := Lib.hid M1
  have RC := Lib.hid (fun w' (hb : Below w.heap.size w w') => R8Point_any n1 c1 A1 bs w' (by omega) hc1 hbs ((hA.below hb).more hb.size))
  have RZ := Lib.hid (fun w' (hb : Below w.heap.size w w') => R8Point_any n2 c2 A2 bs2 w' (by omega) hc2 hbs2 ((hA2.below hb).more hb.size))
  have AL2 := Lib.hid hA2
  clear LC hA hbs hA2 hbs2 hl2 K1 M1
  go_enter Try.func3, Try.ntmps3
  go_wp2_with fail
  refine LCH.out.mono ?_
  rintro e w0 ⟨rfl, hw0⟩
  obtain rfl := hw0.symm
  clear LCH
  go_wp2_with fail
  refine (KD.out w.heap.size w AL2.out).mono ?_
  rintro e w1 ⟨rfl, hw1⟩
  obtain rfl := hw1.symm
  go_wp2_with fail
  refine (RC.out _ (Below.refl _ _)).mono ?_
  rintro e w1 ⟨cx, cy, hcx, hcy, rfl, hb1⟩
  have V1 := Lib.hid hb1
  have PC := Lib.hid (ewP_cb hcx hcy).1
  obtain ⟨p, ep⟩ : ∃ p, ew cx = p := ⟨_, rfl⟩
  obtain ⟨q, eq⟩ : ∃ q, ew cy = q := ⟨_, rfl⟩
  rw [ep, eq] at PC ⊢
  obtain ⟨gm, egm⟩ : ∃ g, w1.heap.size = g := ⟨_, rfl⟩
  obtain ⟨v1, ev1⟩ : ∃ v, v = w1.alloc (.cells #[.int .i64 (kd : Int), .complex .f32 p q] 28) := ⟨_, rfl⟩
  have S1 : Hid (Held [.blk gm 28 #[.int .i64 (kd : Int), .complex .f32 p q], .low w] v1) := by
    rw [ev1, ← egm]
    exact Lib.hid (((Held.nil _).put (f := .low w) ⟨(V1.out.alloc V1.out.size _).size, V1.out.alloc V1.out.size _⟩).put (f := .blk _ _ _) (Blk.new _ _ _))
  have EV1 := Lib.hid ev1
  have z0 : v1.cell? ⟨w1.heap.size, 0, none⟩ = some (.int .i64 (kd : Int)) := by rw [egm]; exact (S1.out.blk 0 rfl).cell 0
  have z1 : v1.cell? ⟨w1.heap.size, 1, none⟩ = some (.complex .f32 p q) := by rw [egm]; exact (S1.out.blk 0 rfl).cell 1
  rw [ev1] at z0 z1
  have PR := Lib.hid (fun w => PeriodOf_ok kd (p, q) (0, 0) 1031798784 w (by omega) PC.out zero_fb zero_sm zero_w near_lit.1 near_lit.2)
  unfold mapV at PR
  clear hb1 KD ep eq hcx hcy V1 ev1
  go_wp2_with fail
  rw [← EV1.out]
  refine (PR.out _).mono ?_
  rintro e w2 ⟨pp, one, rfl, hper, hb2⟩
  have HP := Lib.hid hper
  have S2 := Lib.hid (S1.out.below hb2)
  clear hper hb2 PR z0 z1 egm S1 EV1
  go_upto_if 50 with fail
  go_cut [] from 51 to 103 (fun wx => Hid (Held [.low w] wx))
  case first =>
    as_aux_lemma =>
      cases one with
      | false =>
        go_wp2
        go_meet
        exact Lib.hid ((Held.nil _).put (f := .low w) (S2.out.low 1 rfl))
      | true =>
        have hp := HP.out rfl
        have hp1 := hp.lo
        have hp12 := hp.hi
        obtain ⟨f, OR, DQ⟩ := per_law (by omega) PC.out hp
        obtain ⟨l5, el5⟩ : ∃ l, 5 + pp = l := ⟨_, rfl⟩
        obtain ⟨l4, el4⟩ : ∃ l, 4 + pp = l := ⟨_, rfl⟩
        have hl5 : (5 : Int) + (pp : Int) = (l5 : Int) := by omega
        have hl4 : (4 : Int) + (pp : Int) = (l4 : Int) := by omega
        obtain ⟨u, v, d, sb, lo, dg, _⟩ := DQ pp hp1 (Nat.le_refl _)
        have dg := dg rfl
        rw [el5] at OR
        rw [el4] at sb
        have OR := Lib.hid OR
        have LO := Lib.hid lo
        have DQ := Lib.hid DQ
        have HL := Lib.hid (show 4 + pp = l4 ∧ 5 + pp = l5 from ⟨el4, el5⟩)
        have hl45 : l4 < l5 := by omega
        have h4l : 4 < l5 := by omega
        have hl4I : (l4 : Int) < (l5 : Int) := by omega
        have h4lI : (4 : Int) < (l5 : Int) := by omega
        have z0 := (S2.out.blk 0 rfl).cell 0
        have z1 := (S2.out.blk 0 rfl).cell 1
        have hb17 : l5 ≤ 17 := by omega
        have hp1I : ¬ (pp : Int) < 1 := by omega
        have hp12I : ¬ (12 : Int) < (pp : Int) := by omega
        clear hp lo el5 el4 HP
        go_wp2_with fail
        refine (OR.out _).mono ?_
        rintro e w3 ⟨go, co, rfl, ho3, hb3⟩
        have S3 : Hid (Held [.rd w3.heap.size 1 (some ⟨go, 0, none⟩) l5 ((List.range l5).map (fun i => cxv (f i))), .low w] w3) := Lib.hid (((Held.nil _).put (f := .low w) ((S2.out.below hb3).low 1 rfl)).put (Held.of_own ho3))
        clear hb3 ho3 S2 OR z0 z1
        have cA := held_cxp S3.out 0 rfl hl45
        have cB := held_cxp S3.out 0 rfl h4l
        have wl5 : IntKind.i64.wrap (l5 : Int) = (l5 : Int) := IntWalk.i64_in _ (by omega)
        have wl4 : IntKind.i64.wrap (l4 : Int) = (l4 : Int) := IntWalk.i64_in _ (by omega)
        have l40 : (0 : Int) ≤ (l4 : Int) := by omega
        go_wp2
        go_quiet (first | (go_at_call 9; with_reducible exact Calls.quiet_of_same (LO.out _)))
        generalize hw : World.drewN w3 _ = w4
        have S4 : Hid (Held _ w4) := Lib.hid (S3.out.below (by rw [← hw]; exact ⟨rfl, rfl, rfl, Nat.le_refl _, fun _ _ => rfl⟩))
        clear hw cA cB wl5 wl4 S3 LO sb dg
        go_wp2
        go_loopw [10] (fun sk wr => ∃ k : Nat, sk = .int .i64 (k : Int) ∧ 1 ≤ k ∧ k ≤ pp ∧ Hid (Held [.rd w3.heap.size 1 (some ⟨go, 0, none⟩) l5 ((List.range l5).map (fun i => cxv (f i))), .low w] wr)) (fun sk _ => pp - (intOf sk).toNat)
        case atStart => exact ⟨1, rfl, Nat.le_refl _, hp1, S4⟩
        case round =>
          obtain ⟨k, rfl, hk1, hkp, S5⟩ := hrel
          clear S4
          by_cases hlt : k < pp
          · have hkI : (k : Int) < (pp : Int) := by omega
            obtain ⟨lk, elk⟩ : ∃ l, 4 + k = l := ⟨_, rfl⟩
            have hlk : (4 : Int) + (k : Int) = (lk : Int) := by omega
            obtain ⟨u, v, d, sb, lo, _, dg⟩ := DQ.out k hk1 hkp
            have dg := dg hlt
            rw [elk] at sb
            have LO := Lib.hid lo
            have hlk5 : lk < l5 := by have := HL.out; omega
            have hlkI : (lk : Int) < (l5 : Int) := by omega
            have cA := held_cxp S5.out 0 rfl hlk5
            have cB := held_cxp S5.out 0 rfl h4l
            have wlk : IntKind.i64.wrap (lk : Int) = (lk : Int) := IntWalk.i64_in _ (by omega)
            have lk0 : (0 : Int) ≤ (lk : Int) := by omega
            clear lo elk DQ
            go_wp2
            go_quiet (first | (go_at_call 9; with_reducible exact Calls.quiet_of_same (LO.out _)))
            generalize hw : World.drewN wr _ = w6
            have S6 : Hid (Held _ w6) := Lib.hid (S5.out.below (by rw [← hw]; exact ⟨rfl, rfl, rfl, Nat.le_refl _, fun _ _ => rfl⟩))
            clear hw cA cB wlk lk0 S5 LO sb
            go_wp2
            go_roundw
            case rel => exact ⟨k + 1, by go_num, by omega, by omega, S6⟩
            case measure => simp [intOf]; omega
          · obtain rfl : pp = k := by omega
            have hkI : ¬ (pp : Int) < (pp : Int) := by omega
            go_wp2
            go_meet
            exact Lib.hid ((Held.nil _).put (f := .low w) (S5.out.low 1 rfl))
  case rest =>
    have S3 := hcut
    clear hcut S2 HP PC
    generalize wc = w3 at *
    obtain ⟨n, en⟩ : ∃ n, 2 + mo = n := ⟨_, rfl⟩
    have hn : (2 : Int) + (mo : Int) = (n : Int) := by omega
    have hn2' : 2 ≤ n := by omega
    have hn6 : n ≤ 6 := by omega
    clear en
    have RA := Lib.hid (AL2.out.below (S3.out.low 0 rfl).2)
    go_wp2_with fail
    refine (MO.out w.heap.size w3 RA.out).mono ?_
    rintro e w4 ⟨rfl, hw4⟩
    obtain rfl := hw4.symm
    clear MO RA AL2
    go_wp2_with fail
    refine (RZ.out _ (S3.out.low 0 rfl).2).mono ?_
    rintro e w4 ⟨zx, zy, hzx, hzy, rfl, hb4⟩
    have S4 := Lib.hid (S3.out.below hb4)
    have PZ := Lib.hid (ewP_cb hzx hzy).1
    have RO := Lib.hid (fun w => RootOf_ok n 60 (ew zx, ew zy) hn2' hn6 (by omega) (by show (small1 _ && small1 _) = true; rw [ew_small hzx, ew_small hzy]; rfl) (run_all hn2' hn6 hzx hzy) w)
    obtain ⟨za, ez⟩ : ∃ p, ew zx = p := ⟨_, rfl⟩
    obtain ⟨zb, ezb⟩ : ∃ p, ew zy = p := ⟨_, rfl⟩
    rw [ez, ezb] at PZ RO ⊢
    clear hb4 S3 ez ezb hzx hzy RZ
    go_wp2_with fail
    refine (RO.out _).mono ?_
    rintro e w5 ⟨rk, rs, r3, rfl, hd5, hfound, _⟩
    have HFO := Lib.hid hfound
    have S5 := Lib.hid (S4.out.below (drew_below hd5))
    clear hd5 hfound S4 RO
    go_upto_if 116 with fail
    go_cut [] from 117 to 159 (fun wx => Hid (Held [.low w] wx))
    case first =>
      as_aux_lemma =>
        cases r3 with
        | false =>
          go_wp2
          go_meet
          exact S5
        | true =>
          have F := HFO.out rfl
          have hkn := F.lt
          have hs60 := F.le
          obtain ⟨f, f0, RS, t, u, v, l, y, a, b, k1, PH, k2, LO, k3, k4⟩ := found_law hn2' hn6 F
          have RS := Lib.hid RS
          have F0 := Lib.hid f0
          have PH := Lib.hid PH
          have LO := Lib.hid LO
          have K := Lib.hid (show _ ∧ _ ∧ _ ∧ _ from ⟨k1, k2, k3, k4⟩)
          clear F HFO f0 k1 k2 k3 k4
          go_wp2
          go_loopw [16, 17] (fun sz si wr => ∃ i : Nat, si = .int .i64 (i : Int) ∧ i ≤ rs ∧ sz = .complex .f32 (f i).1 (f i).2 ∧ Hid (Held [.low w] wr)) (fun _ si _ => rs - (intOf si).toNat)
          case atStart => exact ⟨0, rfl, Nat.zero_le _, by rw [F0.out], S5⟩
          case round =>
            clear S5 F0
            obtain ⟨i, rfl, hi, rfl, S6⟩ := hrel
            by_cases hlt : i < rs
            · have hii : (i : Int) < (rs : Int) := by omega
              have RI := Lib.hid (RS.out i hlt)
              clear RS K PH LO
              go_wp2_with fail
              refine (RI.out _).mono ?_
              rintro e w7 ⟨rfl, hd7⟩
              have S7 := Lib.hid (S6.out.below (drew_below hd7))
              clear hd7 S6 RI
              go_wp2
              go_roundw
              case rel => exact ⟨i + 1, by go_num, by omega, rfl, S7⟩
              case measure => simp [intOf]; omega
            · obtain rfl : rs = i := by omega
              have hii : ¬ (rs : Int) < (rs : Int) := by omega
              have g1 : ¬ (rk : Int) < 0 := by omega
              have g2 : ¬ (n : Int) ≤ (rk : Int) := by omega
              have g3 : ¬ (rs : Int) < 0 := by omega
              have g4 : ¬ (60 : Int) < (rs : Int) := by omega
              obtain ⟨k1, k2, k3, k4⟩ := K.out
              have q1 := r64 k1
              have q2 := rIntW (rk : Int)
              have q3 := rIntW (n : Int)
              have q4 := rWide k3
              clear k1 k3 RS K
              go_wp2_with fail
              refine (PH.out _).mono ?_
              rintro e w7 ⟨rfl, hw7⟩
              obtain rfl := hw7.symm
              go_wp2_with fail
              refine (LO.out _).mono ?_
              rintro e w7 ⟨rfl, hw7⟩
              obtain rfl := hw7.symm
              go_wp2
              go_meet
              exact S6
    case rest =>
      have S6 := hcut
      clear hcut S5 HFO
      generalize wc = w6 at *
      obtain ⟨t, a, b, k1, PH, ST⟩ := start_law hn2' hn6
      have q1 := r64 k1
      have q3 := rIntW (n : Int)
      have PH := Lib.hid PH
      have ST := Lib.hid ST
      clear k1
      go_wp2_with fail
      refine (PH.out _).mono ?_
      rintro e w7 ⟨rfl, hw7⟩
      obtain rfl := hw7.symm
      go_wp2_with fail
      refine (ST.out _).mono ?_
      rintro e w7 ⟨rfl, hd7⟩
      have S7 := Lib.hid (S6.out.below (drew_below hd7))
      clear hd7 S6 PH ST q1 q3
      go_wp2_with fail
      refine (RC.out _ (S7.out.low 0 rfl).2).mono ?_
      rintro e w8 ⟨dx, dy, hdx, hdy, rfl, hb8⟩
      have LW := Lib.hid ((S7.out.below hb8).low 0 rfl)
      have PD := (ewP_cb hdx hdy).1
      obtain ⟨br, hb, BO, IH, bg, bh⟩ := bord_law hdx hdy
      obtain ⟨r, er⟩ : ∃ p, ew dx = p := ⟨_, rfl⟩
      obtain ⟨s, es⟩ : ∃ p, ew dy = p := ⟨_, rfl⟩
      rw [er, es] at PD BO IH ⊢
      have BO := Lib.hid BO
      have IH := Lib.hid IH
      have BH := Lib.hid bh
      have BG := Lib.hid bg
      obtain ⟨ec, ecn⟩ : ∃ n, cnt 0 (r, s) (0, 0) 12 = n := ⟨_, rfl⟩
      obtain ⟨ob, eob⟩ : ∃ f, orb 0 (r, s) (0, 0) = f := ⟨_, rfl⟩
      have zcb : Cb ((110 : Nat) : Rat) (0, 0) := ⟨c0.1, c0.1, by rw [c0.2]; unfold InR; constructor <;> decide, by rw [c0.2]; unfold InR; constructor <;> decide⟩
      have CN := cntP_ok 0 12 (by omega) PD zcb zero_w
      have ES := Lib.hid (fun w => EscapeOf_ok 0 12 (r, s) (0, 0) w (by omega) PD zcb zero_w (by omega))
      rw [ecn] at CN ES
      obtain ⟨m, em⟩ : ∃ m, min (ec + 1) 12 = m := ⟨_, rfl⟩
      have hec := CN.1
      have OR := Lib.hid (fun w => OrbitOf_ok 0 m (r, s) (0, 0) w (by omega) PD zcb zero_w (by omega) (by omega) (fun i hi => CN.2.1 i (by omega)))
      rw [eob] at OR CN
      have NE := Lib.hid (fun A c fl w h => NearEscape_ok ob A m c fl w (by omega) (by omega) (fun k hk => (CN.2.2.2 k (by omega)).1) h)
      have SP := Lib.hid (fun w => SpreadOf_ok PD PZ.out w)
      have NJ : Hid (∀ j, j ≤ m → (∀ i, i < j → out (ob i) = false) → (j < m → out (ob j) = true) → j = ec) := Lib.hid fun j h1 h2 h3 => near_at hec CN.2.1 CN.2.2.1 (by rw [em]; exact h1) h2 (by rw [em]; exact h3)
      unfold mapV at ES OR
      obtain ⟨l1, el1⟩ : ∃ l, ec + 1 = l := ⟨_, rfl⟩
      have hl1 : (ec : Int) + 1 = (l1 : Int) := by omega
      have mn1 : ∀ ts t w, (Builtin.min_ ts t #[.int .i64 (l1 : Int), .int .i64 12]).run Try.prog w = .ok (.int .i64 (m : Int)) w := fun ts t w => by
        rw [min_run]
        have : (if (12 : Int) < (l1 : Int) then (12 : Int) else (l1 : Int)) = (m : Int) := by split <;> omega
        rw [this]
      have mn2 : ∀ ts t w, (Builtin.min_ ts t #[.int .i64 (ec : Int), .int .i64 (m : Int)]).run Try.prog w = .ok (.int .i64 (ec : Int)) w := fun ts t w => by
        rw [min_run]
        have : (if (m : Int) < (ec : Int) then (m : Int) else (ec : Int)) = (ec : Int) := by split <;> omega
        rw [this]
      have MN := Lib.hid (show _ ∧ _ from ⟨mn1, mn2⟩)
      have hm12 : m ≤ 12 := by omega
      obtain ⟨gs, egs⟩ : ∃ g, w8.heap.size = g := ⟨_, rfl⟩
      obtain ⟨v8, ev8⟩ : ∃ v, v = w8.alloc (.cells #[.int .i64 0, .complex .f32 r s] 28) := ⟨_, rfl⟩
      have S8 : Hid (Held [.blk gs 28 #[.int .i64 0, .complex .f32 r s], .low w] v8) := by
        rw [ev8, ← egs]
        exact Lib.hid (((Held.nil _).put (f := .low w) ⟨(LW.out.2.alloc LW.out.2.size _).size, LW.out.2.alloc LW.out.2.size _⟩).put (f := .blk _ _ _) (Blk.new _ _ _))
      have E8 := Lib.hid ev8
      have z0 : v8.cell? ⟨w8.heap.size, 0, none⟩ = some (.int .i64 0) := by rw [egs]; exact (S8.out.blk 0 rfl).cell 0
      have z1 : v8.cell? ⟨w8.heap.size, 1, none⟩ = some (.complex .f32 r s) := by rw [egs]; exact (S8.out.blk 0 rfl).cell 1
      rw [ev8] at z0 z1
      clear CN PD PZ zcb ecn eob em el1 mn1 mn2 er es hdx hdy hb8 S7 ev8 RC hw0 hw1 bg bh hn
      go_wp2_with fail
      rw [← E8.out]
      refine (ES.out _).mono ?_
      rintro e w9 ⟨rfl, hb9⟩
      have S9 := Lib.hid (S8.out.below hb9)
      clear z0 z1 egs hb9 S8 E8 ES
      have z0 := (S9.out.blk 0 rfl).cell 0
      have z1 := (S9.out.blk 0 rfl).cell 1
      obtain ⟨mn1, mn2⟩ := MN.out
      go_wp2_with fail
      refine (OR.out _).mono ?_
      rintro e w10 ⟨go, co, rfl, ho, hb10⟩
      have S10 : Hid (Held [.rd w10.heap.size 1 (some ⟨go, 0, none⟩) m ((List.range m).map (fun i => cxv (ob i))), .blk gs 28 #[.int .i64 0, .complex .f32 r s], .low w] w10) := Lib.hid ((S9.out.below hb10).put (Held.of_own ho))
      clear z0 z1 hb10 ho S9 OR mn1 MN
      go_wp2_with fail
      refine (NE.out _ _ _ _ (S10.out.rd 0 rfl)).mono ?_
      rintro e w11 ⟨j1, rfl, hw11, h1, h2, h3⟩
      obtain rfl := hw11.symm
      obtain rfl := NJ.out j1 h1 h2 h3
      clear h1 h2 h3
      go_wp2_with fail
      refine (NE.out _ _ _ _ (S10.out.rd 0 rfl)).mono ?_
      rintro e w11 ⟨j2, rfl, hw11, h1, h2, h3⟩
      obtain rfl := hw11.symm
      have ej2 : j2 = j1 := NJ.out j2 h1 h2 h3
      rw [ej2]
      clear h1 h2 h3 ej2 NE NJ
      have z0 := (S10.out.blk 1 rfl).cell 0
      have z1 := (S10.out.blk 1 rfl).cell 1
      go_wp2_with fail
      refine (SP.out _).mono ?_
      rintro e w12 ⟨sr, rfl, hsr, hb12⟩
      have S12 := Lib.hid (S10.out.below hb12)
      clear hb12 S10 z0 z1 SP
      go_wp2_with fail
      refine (BO.out _).mono ?_
      rintro e w13 ⟨rfl, hw13⟩
      obtain rfl := hw13.symm
      have bg := BG.out
      clear BO BG
      go_wp2_with fail
      refine (IH.out _).mono ?_
      rintro e w13 ⟨rfl, hw13⟩
      obtain rfl := hw13.symm
      cases hb with
      | false =>
        go_wp2
        go_ret
        exact ⟨by simp, (S12.out.low 2 rfl).2⟩
      | true =>
        have b0 := BH.out rfl
        go_wp2
        go_ret
        exact ⟨by simp [b0], (S12.out.low 2 rfl).2⟩
end Go.Proofs.Ytjmidicidgaapaa
