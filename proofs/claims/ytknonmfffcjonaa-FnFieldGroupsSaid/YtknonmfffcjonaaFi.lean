/- Walk: the program's path. Conditions: the field is valid. -/
import Derived.Test.YtknonmfffcjonaaFs
import Derived.Test.YtknonmfffcjonaaIp
namespace Go.Proofs.Ytknonmfffcjonaa
open Go.RowKit

set_option maxRecDepth 100000 in
theorem pathFn_any (N a x gt ct gT gA : Nat) (T : List Int) (w : World) (hx : x < N) (ha : a < N) (cT : w.cell? ⟨gT, 0, none⟩ = some (.slice (some ⟨gt, 0, none⟩) N ct)) (cA : w.cell? ⟨gA, 0, none⟩ = some (.int .i64 (a : Int)))
    (hX : w.cell? ⟨gt, x, none⟩ = some (.int .i64 (T.getD x (-1)))) (hA : w.cell? ⟨gt, a, none⟩ = some (.int .i64 (T.getD a (-1)))) (b1 : -1 ≤ T.getD a (-1)) (b2 : T.getD a (-1) ≤ 256) :
    Calls Try.prog 30 #[.int .i64 (x : Int), .pointer (some ⟨gT, 0, none⟩), .pointer (some ⟨gA, 0, none⟩)] w fun e w' => e = .returned (.bool (decide (T.getD x (-1) = T.getD a (-1) - 1))) ∧ ∃ m', w' = w.drewN m' := by
  generalize T.getD x (-1) = tx at *
  generalize T.getD a (-1) = ta at *
  go_enter Try.func30, Try.ntmps30
  go_wp2
  go_quiet (fail)
  go_wp2
  go_ret
  exact ⟨ret_bool (by rw [Bool.eq_iff_iff]; simp), _, rfl⟩

set_option maxRecDepth 100000 in
set_option maxHeartbeats 400000 in
theorem implPath_no (wd hi : Int) (A : Option Addr) (n c : Nat) (w : World) (h : validB wd hi n = false) : Calls Try.prog 10 #[fieldV wd hi A n c] w (FpRes [] false w) := by
  have HW : Hid (Below w.heap.size w (w.alloc (.cells #[.int .i64 wd, .int .i64 hi, .slice A n c] 26))) := (Below.refl _ _).alloc (Nat.le_refl _) _
  have HH := Lib.hid h
  clear h
  unfold fieldV
  go_enter Try.func10, Try.ntmps10
  go_wp2_with fail
  refine (ValidField_any wd hi A n c _).mono ?_
  rintro e w1 ⟨rfl, hb1⟩
  rw [HH.out]
  go_wp2
  go_ret2
  exact fpRes_nil (HW.out.trans (hb1.mono (by simp)))

theorem blk_one_set {w : World} {g : Nat} {t : TypeId} {u : Value} (h : Blk w g t #[u]) (v : Value) : Blk (w.setCell ⟨g, 0, none⟩ v) g t #[v] := by
  have := h.set_ 0 v
  simpa using this
theorem below_set {B : Nat} {a w : World} (h : Below B a w) {p : Addr} (hp : B ≤ p.block) (u : Value) : Below B a (w.setCell p u) := h.setCell hp u

set_option maxRecDepth 100000 in
set_option maxHeartbeats 4000000 in
theorem implPath_ok (W H N : Nat) (A : Option Addr) (c : Nat) (cs : List Bool) (w : World) (T : List Int) (hW : 1 ≤ W) (hW' : W ≤ 16) (hH : 1 ≤ H) (hH' : H ≤ 16) (hl : cs.length = N) (hP : W * H = N) (h : validB W H N = true)
    (hT : (lrun cs (nbs W H) (N + 1) (ts0 cs W N) (l0 cs W N) (-1)).1 = T) (hI : BInv N T []) (hD : Down (nbs W H) T)
    (hA : Rd w w.heap.size 1 A N (cs.map bv)) :
    Calls Try.prog 10 #[fieldV W H A N c] w (FpRes (fpInts T W H N) (fpOk T W N) w) := by
  have HW : Hid (Below w.heap.size w (w.alloc (.cells #[.int .i64 W, .int .i64 H, .slice A N c] 26))) := (Below.refl _ _).alloc (Nat.le_refl _) _
  have hbk : Hid (Blk (w.alloc (.cells #[.int .i64 W, .int .i64 H, .slice A N c] 26)) w.heap.size 26 #[.int .i64 W, .int .i64 H, .slice A N c]) := Blk.new _ _ _
  have hN256 : N ≤ 256 := by have := Nat.mul_le_mul hW' hH'; omega
  have hWN : W ≤ N := by rw [← hP]; exact Nat.le_mul_of_pos_right W hH
  obtain ⟨R, hRN⟩ : ∃ R : Nat, R + W = N := ⟨N - W, by omega⟩
  have HH := Lib.hid h
  have HL := Lib.hid hl
  have HP := Lib.hid hP
  have HT := Lib.hid hT
  have I := Lib.hid hI
  have HDN := Lib.hid hD
  clear h hl hP hT hI hD
  unfold fieldV
  go_enter Try.func10, Try.ntmps10
  go_wp2_with fail
  refine (ValidField_any W H A N c _).mono ?_
  rintro e w1 ⟨rfl, hb1⟩
  rw [HH.out]
  have hsz := hb1.size
  simp only [World.size_alloc] at hsz
  have HB := Lib.hid (HW.out.trans (hb1.mono (by simp)))
  have hk := hbk.out.below hb1 (by simp)
  have HK := Lib.hid hk
  have d0 : w1.cell? ⟨w.heap.size, 0, none⟩ = some (.int .i64 W) := hk.cell 0
  have d1 : w1.cell? ⟨w.heap.size, 1, none⟩ = some (.int .i64 H) := hk.cell 1
  have d2 : w1.cell? ⟨w.heap.size, 2, none⟩ = some (.slice A N c) := hk.cell 2
  clear hb1 hk
  go_wp2_with fail
  refine (times_any W H N A c cs _ hW hW' hH hH' HL.out HP.out ((hA.below HB.out).more (by omega))).mono ?_
  rintro e w2 ⟨At, ct, rfl, ho, hb2⟩
  clear d0 d1 d2
  rw [HT.out] at ho
  have hsz2 := hb2.size
  have HO := Lib.hid ho
  have HB2 := Lib.hid (HB.out.trans (hb2.mono (by omega)))
  have HK2 := Lib.hid (HK.out.below hb2 HK.out.lt)
  have k0 : ∀ w', Below w2.heap.size w2 w' → w'.cell? ⟨w.heap.size, 0, none⟩ = some (.int .i64 W) ∧ w'.cell? ⟨w.heap.size, 1, none⟩ = some (.int .i64 H) ∧ w'.cell? ⟨w.heap.size, 2, none⟩ = some (.slice A N c) :=
    fun w' h => ⟨(h.cell HK2.out.lt).trans (HK2.out.cell 0), (h.cell HK2.out.lt).trans (HK2.out.cell 1), (h.cell HK2.out.lt).trans (HK2.out.cell 2)⟩
  have K0 := Lib.hid k0
  obtain ⟨d0, d1, d2⟩ := k0 w2 (Below.refl _ _)
  obtain ⟨gt, co', hvt, _, hgt'⟩ := ho.form (by omega)
  obtain ⟨rfl, rfl⟩ : At = some ⟨gt, 0, none⟩ ∧ ct = co' := by injection hvt with h1 _ h3; exact ⟨h1, h3⟩
  have hlt2 : w.heap.size < w2.heap.size := by omega
  have BT : Hid (Blk ((w2.alloc (.cells #[.slice (some ⟨gt, 0, none⟩) N ct] 28)).alloc (.cells #[.int .i64 (-1)] 2)) w2.heap.size 28 #[.slice (some ⟨gt, 0, none⟩) N ct]) := (Blk.new _ _ _).alloc _
  have BA : Hid (Blk ((w2.alloc (.cells #[.slice (some ⟨gt, 0, none⟩) N ct] 28)).alloc (.cells #[.int .i64 (-1)] 2)) (w2.heap.size + 1) 2 #[.int .i64 (-1)]) := Blk.new2 _ _ _ _
  have B0 : Hid (Below w2.heap.size w2 ((w2.alloc (.cells #[.slice (some ⟨gt, 0, none⟩) N ct] 28)).alloc (.cells #[.int .i64 (-1)] 2))) := ((Below.refl _ _).alloc (Nat.le_refl _) _).alloc (by simp) _
  have hNW : (N : Int) - (W : Int) = (R : Int) := by omega
  clear ho hb2 hvt k0
  go_wp2
  clear d0 d1 d2
  go_loopw [7] (fun si wr => ∃ (i : Nat), R ≤ i ∧ i ≤ N ∧ si = .int .i64 i ∧ Blk wr w2.heap.size 28 #[.slice (some ⟨gt, 0, none⟩) N ct] ∧ Blk wr (w2.heap.size + 1) 2 #[.int .i64 (bestTo T R (i - R))] ∧ Below w2.heap.size w2 wr) (fun i _ => N - (intOf i).toNat)
  case atStart => exact ⟨R, Nat.le_refl _, by omega, by first | rfl | (rw [hNW]), BT.out, by rw [Nat.sub_self]; exact BA.out, B0.out⟩
  case round =>
    clear BT BA B0
    obtain ⟨i, hiR, hiN, rfl, bT, bA, hb⟩ := hrel
    obtain ⟨k, hk⟩ : ∃ k, i = R + k := ⟨i - R, by omega⟩
    have hkk : i - R = k := by omega
    have bd := bestTo_bd T R k
    rw [hkk] at bA
    obtain ⟨a, ea⟩ : ∃ a, bestTo T R k = a := ⟨_, rfl⟩
    rw [ea] at bd bA
    obtain ⟨bd1, bd2, bd3⟩ := bd
    have hsz3 := hb.size
    have cT : wr.cell? ⟨w2.heap.size, 0, none⟩ = some (.slice (some ⟨gt, 0, none⟩) N ct) := bT.cell 0
    have cA : wr.cell? ⟨w2.heap.size + 1, 0, none⟩ = some (.int .i64 a) := bA.cell 0
    have fA : wr.frozen? ⟨w2.heap.size + 1, 0, none⟩ = false := bA.frozen 0
    obtain ⟨d0, d1, d2⟩ := K0.out wr hb
    have BT := Lib.hid bT
    have BA := Lib.hid bA
    have HBr := Lib.hid hb
    clear bT bA
    by_cases hlt : i < N
    · have ho := own_below HO.out hb
      have cY := own_cellD ho hlt
      obtain ⟨y, ey⟩ : ∃ y, T.getD i (-1) = y := ⟨_, rfl⟩
      rw [ey] at cY
      have hkk1 : i + 1 - R = k + 1 := by omega
      have EA := Lib.hid ea
      have EK := Lib.hid hkk1
      have EI := Lib.hid hk
      have EY := Lib.hid ey
      by_cases hy : 0 ≤ y
      · have q0 : decide (0 ≤ y) = true := by simpa using hy
        by_cases hna : a < 0
        · have E1 : Hid (bestTo T R (k + 1) = ((R + k : Nat) : Int)) := bestTo_yes ⟨by rw [← hk, ey]; exact hy, .inl (by rw [ea]; exact hna)⟩
          clear ea hkk1 hk ey ho bd3 hkk hb
          go_wp2
          go_quiet (fail)
          go_wp2
          go_roundw
          case rel =>
            refine ⟨i + 1, by omega, by omega, by go_num, (BT.out.drewN _).far (by simp) _, ?_, below_set (below_drewN HBr.out _) (by simp) _⟩
            rw [EK.out, E1.out, ← EI.out]
            exact blk_one_set (BA.out.drewN _) _
          case measure => simp [intOf]; omega
        · obtain ⟨b, rfl⟩ : ∃ b : Nat, a = (b : Int) := ⟨a.toNat, by omega⟩
          have hbN : b < N := by omega
          have hb0 : (0 : Int) ≤ (b : Int) := by omega
          have hbNI : (b : Int) < (N : Int) := by omega
          have cZ := own_cellD ho (i := b) (by omega)
          obtain ⟨z, ez⟩ : ∃ z, T.getD b (-1) = z := ⟨_, rfl⟩
          rw [ez] at cZ
          have q1 : decide ((b : Int) < 0) = false := by simp
          by_cases hyz : y < z
          · have q2 : decide (y < z) = true := by simpa using hyz
            have E1 : Hid (bestTo T R (k + 1) = ((R + k : Nat) : Int)) := bestTo_yes ⟨by rw [← hk, ey]; exact hy, .inr (by rw [ea, ← hk, ey, Int.toNat_natCast, ez]; exact hyz)⟩
            clear ea hkk1 hk ey ho bd3 hkk ez hb
            go_wp2
            go_quiet (fail)
            go_wp2
            go_roundw
            case rel =>
              refine ⟨i + 1, by omega, by omega, by go_num, (BT.out.drewN _).far (by simp) _, ?_, below_set (below_drewN HBr.out _) (by simp) _⟩
              rw [EK.out, E1.out, ← EI.out]
              exact blk_one_set (BA.out.drewN _) _
            case measure => simp [intOf]; omega
          · have q2 : decide (y < z) = false := by simpa using hyz
            have E1 : Hid (bestTo T R (k + 1) = (b : Int)) := by
              rw [← ea]
              refine bestTo_no (fun h => ?_)
              rw [ea, ← hk, ey, Int.toNat_natCast, ez] at h
              omega
            clear ea hkk1 hk ey ho bd3 hkk ez hb
            go_wp2
            go_quiet (fail)
            go_wp2
            go_roundw
            case rel => exact ⟨i + 1, by omega, by omega, by go_num, BT.out.drewN _, by rw [EK.out, E1.out]; exact BA.out.drewN _, below_drewN HBr.out _⟩
            case measure => simp [intOf]; omega
      · have q0 : decide (0 ≤ y) = false := by simpa using hy
        have E1 : Hid (bestTo T R (k + 1) = a) := by
          rw [← ea]
          refine bestTo_no (fun h => ?_)
          rw [← hk, ey] at h
          exact hy h.1
        clear ea hkk1 hk ey ho bd3 hkk hb
        go_wp2
        go_quiet (fail)
        go_wp2
        go_roundw
        case rel => exact ⟨i + 1, by omega, by omega, by go_num, BT.out.drewN _, by rw [EK.out, E1.out]; exact BA.out.drewN _, below_drewN HBr.out _⟩
        case measure => simp [intOf]; omega
    · obtain rfl : i = N := by omega
      obtain rfl : k = W := by omega
      have hRR : i - k = R := by omega
      have EA : Hid (bestTo T (i - k) k = a) := by rw [hRR]; exact ea
      have HBw : Hid (Below w.heap.size w wr) := HB2.out.trans (hb.mono (by omega))
      clear hRR ea hkk
      by_cases hna : a < 0
      · have E2 : Hid (fpInts T k H i = []) := by unfold fpInts; rw [fpList_no (by rw [EA.out]; exact hna)]; rfl
        have e3 : fpOk T k i = false := by unfold fpOk; rw [EA.out]; simp; exact hna
        have E3 := Lib.hid e3
        clear e3 hk hb
        go_wp2
        go_ret2
        rw [E2.out, E3.out]
        exact fpRes_nil HBw.out
      · obtain ⟨b, rfl⟩ : ∃ b : Nat, a = (b : Int) := ⟨a.toNat, by omega⟩
        have E2 : Hid (fpList T k H i = pathOf T (nbs k H) b) := fpList_yes EA.out
        have e3 : fpOk T k i = true := by unfold fpOk; rw [EA.out]; simp
        have E3 := Lib.hid e3
        clear e3
        have hbi : b < i := by omega
        obtain ⟨wo, hwo⟩ : ∃ x, x = wr := ⟨_, rfl⟩
        subst hwo
        clear hk bd3 hb
        have b1 : Hid (Blk (wo.alloc (.cells #[.int .i64 b] 2)) wo.heap.size 2 #[.int .i64 b]) := Blk.new _ _ _
        have hPl : (pathOf T (nbs k H) b).length ≤ 300 := by
          unfold pathOf
          rw [pathTo_len]
          have := (time_bd I.out b).2
          omega
        have hgA : w2.heap.size + 1 < wo.heap.size := BA.out.lt
        go_wp2
        obtain ⟨P, hP⟩ : ∃ P, pathOf T (nbs k H) b = P := ⟨_, rfl⟩
        rw [hP] at hPl
        have HP0 : Hid (([] : List Nat) ++ pathOf T (nbs k H) b = P) := by rw [List.nil_append]; exact hP
        have E4 : Hid (fpList T k H i = P) := by rw [E2.out]; exact hP
        clear hP E2 cA cT fA d0 d1 d2
        go_loopg [8] ((T.getD b (-1)).toNat) (fun gk so wr => ∃ (a : Nat) (pre : List Nat) (Al : Option Addr) (cl : Nat), Hid (gk = (T.getD a (-1)).toNat) ∧ so = .slice Al (pre.length + 1) cl ∧ a < i ∧
            Blk wr w2.heap.size 28 #[.slice (some ⟨gt, 0, none⟩) i ct] ∧ Blk wr (w2.heap.size + 1) 2 #[.int .i64 (a : Int)] ∧ Below w2.heap.size w2 wr ∧ wo.heap.size ≤ wr.heap.size ∧
            wr.ownsRow wo.heap.size 2 1 (.slice Al (pre.length + 1) cl) (pre.length + 1) ((pre ++ [a]).map nv) ∧ Hid (pre ++ pathOf T (nbs k H) a = P))
        case atStart =>
          exact ⟨b, [], _, 1, rfl, rfl, hbi, BT.out.alloc _, BA.out.alloc _, HBr.out.alloc hsz3 _, by simp, b1.out.own (n := 1) (size := 1) (Nat.le_refl _) rfl (by unfold maxLen; omega), HP0⟩
        case round =>
          clear HP0 b1 BT BA HBr
          obtain ⟨a, pre, Al, cl, GK, rfl, hai, bT, bA, hb, hzo, hol, HPP⟩ := hrel
          obtain ⟨wp, hwp⟩ : ∃ x, x = wr := ⟨_, rfl⟩
          subst hwp
          have hsz := hb.size
          have ho := own_below HO.out hb
          have cX := own_cellD ho hai
          obtain ⟨ta, hta⟩ : ∃ ta, T.getD a (-1) = ta := ⟨_, rfl⟩
          rw [hta] at cX
          have bt := time_bd I.out a
          rw [hta] at bt
          obtain ⟨bt1, bt2⟩ := bt
          have cT : wp.cell? ⟨w2.heap.size, 0, none⟩ = some (.slice (some ⟨gt, 0, none⟩) i ct) := bT.cell 0
          have cA : wp.cell? ⟨w2.heap.size + 1, 0, none⟩ = some (.int .i64 a) := bA.cell 0
          have hai0 : (a : Int) < (i : Int) := by omega
          by_cases hpos : 0 < ta
          · have hst := pathOf_step (T := T) (nb := nbs k H) (a := a) (by rw [hta]; exact hpos) HDN.out
            obtain ⟨nx, hnx⟩ : ∃ nx, nextOf T (nbs k H a) a = nx := ⟨_, rfl⟩
            have hnm := nextOf_spec (HDN.out a (by rw [hta]; exact hpos))
            rw [hnx] at hnm hst
            have hpre : pre.length + 2 ≤ P.length := by
              rw [← HPP.out, hst, List.length_append, List.length_cons]
              unfold pathOf
              rw [pathTo_len]; omega
            have HST := Lib.hid hst
            have HTA := Lib.hid hta
            have HNX := Lib.hid hnx
            have HNM := Lib.hid hnm
            obtain ⟨d0, d1, d2⟩ := K0.out wp hb
            have HLL := Lib.hid hol
            have HBP := Lib.hid hb
            have BT := Lib.hid bT
            have BA := Lib.hid bA
            clear hst hta hnx hnm ho hol hb bT bA
            go_wp2_with (go_at_call 28; refine (sides_any k H a _ _ rfl hW hW' hH hH' (by rw [HP.out]; exact hai)).mono ?_; rintro e w3 ⟨An, nn, cn, rfl, hn, hb3⟩)
            obtain ⟨bs, ebs⟩ : ∃ bs, nbs k H a = bs := ⟨_, rfl⟩
            have hbsN : ∀ x ∈ nbs k H a, x < i := fun x hx => by
              have := nbs_lt (W := k) (H := H) (i := a) (b := x) (by rw [HP.out]; exact hai) hx
              rwa [HP.out] at this
            have hnx' : nx < i := hbsN nx HNM.out.1
            rw [ebs] at hn hbsN
            have hnn : bs.length = nn := by have := hn.1; simp at this; omega
            have hnn4 : nn ≤ 4 := by rw [← hnn, ← ebs]; unfold nbs nb1 nb2 nb3 nb4; simp only [List.length_append]; repeat' split <;> simp
            have HBS := Lib.hid (And.intro hbsN (And.intro hnn ebs))
            have hsz3' := hb3.size
            have HL3 := Lib.hid (own_below HLL.out hb3)
            have HB3' := Lib.hid (HBP.out.trans (hb3.mono hsz))
            have BT3 := Lib.hid (BT.out.below hb3 BT.out.lt)
            have BA3 := Lib.hid (BA.out.below hb3 BA.out.lt)
            have HN3 := Lib.hid hn
            have hX : (bs.map fun (n : Nat) => (n : Int)).map iv = bs.map nv := by rw [List.map_map]; rfl
            have IFC := Lib.hid (indexFuncPath_any An nn cn w3.heap.size (bs.map fun (n : Nat) => (n : Int)) ⟨w2.heap.size, 0, none⟩ ⟨w2.heap.size + 1, 0, none⟩ (fun x => decide (T.getD x.toNat (-1) = T.getD a (-1) - 1)) w3 (by unfold maxLen; omega) (Nat.le_refl _)
              (by rw [hX]; exact Rd.own hn) (fun m x hx => by
                simp only [List.mem_map] at hx
                obtain ⟨x', hx', rfl⟩ := hx
                have hxi := hbsN x' hx'
                have ho3 : (w3.drewN m).ownsRow w1.heap.size 2 1 (.slice (some ⟨gt, 0, none⟩) i ct) i (T.map iv) := own_below HO.out (below_drewN HB3'.out m)
                have bt := time_bd I.out a
                exact (pathFn_any i a x' gt ct w2.heap.size (w2.heap.size + 1) T (w3.drewN m) hxi hai (BT3.out.cell 0) (BA3.out.cell 0) (own_cellD ho3 hxi) (own_cellD ho3 hai) bt.1 (by omega)).mono fun e w' h => by
                  obtain ⟨h1, m', h2⟩ := h
                  exact ⟨by rw [h1, Int.toNat_natCast], _, h2.trans (World.drewN_drewN _ _ _)⟩))
            clear hn hbsN hnn ebs hb3 HLL BT BA cX cT cA d0 d1 d2 hX
            go_wp2_with fail
            refine IFC.out.mono ?_
            rintro e w4 ⟨⟨m4, h4⟩, hres⟩
            have hres' : ∃ j : Nat, j < nn ∧ e = .returned (.int .i64 j) ∧ bs[j]? = some nx := by
              rcases hres with ⟨j, x, hj, he, hx, hp, hq⟩ | ⟨he, hq⟩
              · refine ⟨j, hj, he, ?_⟩
                rw [List.getElem?_map] at hx
                cases hbj : bs[j]? with
                | none => rw [hbj] at hx; cases hx
                | some x' =>
                  rw [hbj] at hx
                  injection hx with hx
                  subst hx
                  have := nextOf_eq (T := T) (a := a) hbj (by unfold ahead; simpa using hp) (fun y hy => by
                    have := hq (y : Int) (by rw [← List.map_take]; exact List.mem_map_of_mem hy)
                    unfold ahead
                    simpa using this)
                  rw [← this, ← HBS.out.2.2, HNX.out]
              · exfalso
                obtain ⟨h1, h2⟩ := HNM.out
                rw [HBS.out.2.2] at h1
                have := hq (nx : Int) (List.mem_map_of_mem h1)
                rw [Int.toNat_natCast] at this
                simp at this
                exact this h2
            obtain ⟨j, hj, rfl, hbj⟩ := hres'
            obtain ⟨gn, cn', hvn, _, hgn'⟩ := HN3.out.form (by omega)
            obtain ⟨rfl, rfl⟩ : An = some ⟨gn, 0, none⟩ ∧ cn = cn' := by injection hvn with h1 _ h3; exact ⟨h1, h3⟩
            have cB : w4.cell? ⟨gn, j, none⟩ = some (.int .i64 (nx : Int)) := by
              rw [h4]
              show w3.cell? _ = _
              rw [HN3.out.cellAt _ (by omega), List.getElem?_map, hbj]; rfl
            have BT4 : Hid (Blk w4 w2.heap.size 28 #[.slice (some ⟨gt, 0, none⟩) i ct]) := h4 ▸ BT3.out
            have BA4 : Hid (Blk w4 (w2.heap.size + 1) 2 #[.int .i64 (a : Int)]) := h4 ▸ BA3.out
            have fA : w4.frozen? ⟨w2.heap.size + 1, 0, none⟩ = false := BA4.out.frozen 0
            have cA : w4.cell? ⟨w2.heap.size + 1, 0, none⟩ = some (.int .i64 (a : Int)) := BA4.out.cell 0
            have HL4 : Hid (w4.ownsRow wo.heap.size 2 1 (.slice Al (pre.length + 1) cl) (pre.length + 1) ((pre ++ [a]).map nv)) := h4 ▸ HL3.out
            have HB4 : Hid (Below w2.heap.size w2 w4) := h4 ▸ below_drewN HB3'.out m4
            have hz4 : wp.heap.size ≤ w4.heap.size := by rw [h4]; exact hsz3'
            have BT5 := Lib.hid (BT4.out.far (p := ⟨w2.heap.size + 1, 0, none⟩) (by simp) (.int .i64 (nx : Int)))
            have BA5 := Lib.hid (blk_one_set BA4.out (.int .i64 (nx : Int)))
            have HL5 := Lib.hid (own_grown HL4.out (grown_set (World.grownBy.refl w4 (some (w2.heap.size + 1))) (p := ⟨w2.heap.size + 1, 0, none⟩) rfl (.int .i64 (nx : Int))) hgA)
            have HB5 := Lib.hid (below_set HB4.out (p := ⟨w2.heap.size + 1, 0, none⟩) (by simp) (.int .i64 (nx : Int)))
            have cA5 : (w4.setCell ⟨w2.heap.size + 1, 0, none⟩ (.int .i64 (nx : Int))).cell? ⟨w2.heap.size + 1, 0, none⟩ = some (.int .i64 (nx : Int)) := BA5.out.cell 0
            have hz5 : wo.heap.size ≤ (w4.setCell ⟨w2.heap.size + 1, 0, none⟩ (.int .i64 (nx : Int))).heap.size := by rw [World.size_setCell]; omega
            clear h4 hres hbj hvn IFC
            go_wp2_with (at_builtin; refine wpList_append_one (W := w4.setCell ⟨w2.heap.size + 1, 0, none⟩ (.int .i64 (nx : Int))) rfl _ _ _ rfl wo.heap.size 2 (.int .i64 0) 8 Try.underlying28 intInfo rfl Al (pre.length + 1) cl _ rfl HL5.out (.int .i64 (nx : Int)) _ rfl (by simp) rfl (by unfold maxLen; omega) (by omega) hz5 ?_; intro A6 c6 w6 ho6 hg6 hd6)
            have gk1 : gk = (T.getD nx (-1)).toNat + 1 := by rw [GK.out, HTA.out, HNM.out.2, HTA.out]; omega
            go_roundg ((T.getD nx (-1)).toNat)
            case measure => omega
            case rel =>
              have hz6 := hg6.size
              refine ⟨nx, pre ++ [a], A6, c6, rfl, by simp, hnx', BT5.out.grown hg6 (fun e => ?_), BA5.out.grown hg6 (fun e => ?_), HB5.out.grown hg6 (by omega) (fun j e => ?_), by omega, ?_, ?_⟩
              · have := (HL5.out.lt _ e.symm).1; omega
              · have := (HL5.out.lt _ e.symm).1; omega
              · have := (HL5.out.lt _ e).1; omega
              · rw [List.length_append, List.map_append]; exact ho6
              · have h := HPP.out
                rw [HST.out] at h
                rw [List.append_assoc]
                exact h
          · have hst := pathOf_zero (T := T) (nb := nbs k H) (a := a) (by rw [hta]; omega)
            have hPP := HPP.out
            rw [hst] at hPP
            have HF := Lib.hid hPP
            have HLL := Lib.hid hol
            have HBw2 : Hid (Below w.heap.size w wp) := HB2.out.trans (hb.mono (by omega))
            clear hst hta hPP ho hol hb bT bA
            go_wp2
            go_ret2
            have e2 : fpInts T k H i = (pre ++ [a]).map fun (n : Nat) => (n : Int) := by unfold fpInts; rw [E4.out, HF.out]
            have e3 : (fpInts T k H i).length = pre.length + 1 := by rw [e2]; simp
            have e4 : (fpInts T k H i).map iv = (pre ++ [a]).map nv := by rw [e2, List.map_map]; rfl
            refine ⟨Al, cl, ?_, ?_, HBw2.out⟩
            · rw [e3, E3.out]; rfl
            · rw [e3, e4]; exact own_base HLL.out (by omega)
end Go.Proofs.Ytknonmfffcjonaa
