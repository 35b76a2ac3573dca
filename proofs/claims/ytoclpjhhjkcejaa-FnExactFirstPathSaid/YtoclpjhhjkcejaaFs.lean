/- Walk: the reference's path. Conditions: the field is valid. -/
import Derived.Test.YtoclpjhhjkcejaaBt
import Derived.Test.YtoclpjhhjkcejaaPp
import Derived.Test.YtoclpjhhjkcejaaSym
namespace Go.Proofs.Ytoclpjhhjkcejaa
open Go.RowKit

/-- What FirstPath gives: a list, and whether there is a path. -/
def FpRes (T : List Int) (ok : Bool) (w : World) (e : Ending) (w' : World) : Prop :=
  ∃ A' c', e = .returned (.tuple #[.slice A' T.length c', .bool ok]) ∧ w'.ownsRow w.heap.size 2 1 (.slice A' T.length c') T.length (T.map iv) ∧ Below w.heap.size w w'
theorem fpRes_nil {w w' : World} (hb : Below w.heap.size w w') : FpRes [] false w (.returned (.tuple #[.slice none 0 0, .bool false])) w' :=
  ⟨none, 0, rfl, World.ownsRow_nil _ _ _ _, hb⟩
/-- The list as integers. -/
def fpInts (T : List Int) (W H N : Nat) : List Int := (fpList T W H N).map fun (n : Nat) => (n : Int)
def fpOk (T : List Int) (W N : Nat) : Bool := decide (0 ≤ bestTo T (N - W) W)
theorem own_cellD {w : World} {base g n c : Nat} {e : TypeId} {T : List Int} (h : w.ownsRow base e 1 (.slice (some ⟨g, 0, none⟩) n c) n (T.map iv)) {i : Nat} (hi : i < n) : w.cell? ⟨g, i, none⟩ = some (.int .i64 (T.getD i (-1))) := by
  have hl : T.length = n := by have := h.1; simpa using this
  rw [h.cellAt _ (by omega), List.getElem?_map, time_at (by omega)]; rfl

set_option maxRecDepth 100000 in
set_option maxHeartbeats 400000 in
theorem specPath_no (wd hi : Int) (A : Option Addr) (n c : Nat) (w : World) (h : validB wd hi n = false) : Calls Try.prog 20 #[fieldV wd hi A n c] w (FpRes [] false w) := by
  have HW : Hid (Below w.heap.size w (w.alloc (.cells #[.int .i64 wd, .int .i64 hi, .slice A n c] 29))) := (Below.refl _ _).alloc (Nat.le_refl _) _
  have hbk : Hid (Blk (w.alloc (.cells #[.int .i64 wd, .int .i64 hi, .slice A n c] 29)) w.heap.size 29 #[.int .i64 wd, .int .i64 hi, .slice A n c]) := Blk.new _ _ _
  have HH := Lib.hid h
  clear h
  unfold fieldV
  go_enter Try.func20, Try.ntmps20
  go_wp2_with fail
  refine (l07Is_any wd hi A n c w.heap.size _ hbk.out).mono ?_
  rintro e w1 ⟨rfl, hb1⟩
  rw [HH.out]
  go_wp2
  go_ret2
  exact fpRes_nil (HW.out.trans (hb1.mono (by simp)))

set_option maxRecDepth 100000 in
set_option maxHeartbeats 4000000 in
theorem specPath_ok (W H N : Nat) (A : Option Addr) (c : Nat) (cs : List Bool) (w : World) (T : List Int) (hW : 1 ≤ W) (hW' : W ≤ 16) (hH : 1 ≤ H) (hH' : H ≤ 16) (hl : cs.length = N) (hP : W * H = N) (h : validB W H N = true)
    (hT : (qrun cs (nbs W H) N 0 (ts0 cs W N, l0 cs W N) (-1)).1 = T) (hI : BInv N T []) (hD : Down (nbs W H) T)
    (hA : Rd w w.heap.size 1 A N (cs.map bv)) :
    Calls Try.prog 20 #[fieldV W H A N c] w (FpRes (fpInts T W H N) (fpOk T W N) w) := by
  have HW : Hid (Below w.heap.size w (w.alloc (.cells #[.int .i64 W, .int .i64 H, .slice A N c] 29))) := (Below.refl _ _).alloc (Nat.le_refl _) _
  have hbk : Hid (Blk (w.alloc (.cells #[.int .i64 W, .int .i64 H, .slice A N c] 29)) w.heap.size 29 #[.int .i64 W, .int .i64 H, .slice A N c]) := Blk.new _ _ _
  have hN256 : N ≤ 256 := by have := Nat.mul_le_mul hW' hH'; omega
  obtain ⟨R, hR, hRN⟩ : ∃ R : Nat, ((H : Int) - 1) * (W : Int) = (R : Int) ∧ R + W = N := by
    refine ⟨(H - 1) * W, by rw [Int.natCast_mul, Int.natCast_sub hH]; rfl, ?_⟩
    have : (H - 1) * W + W = H * W := by
      conv => lhs; rw [← Nat.succ_mul]
      congr 1
      omega
    rw [this, Nat.mul_comm, hP]
  have HH := Lib.hid h
  have HL := Lib.hid hl
  have HP := Lib.hid hP
  have HT := Lib.hid hT
  have I := Lib.hid hI
  have HDN := Lib.hid hD
  clear h hl hP hT hI hD
  unfold fieldV
  go_enter Try.func20, Try.ntmps20
  go_wp2_with fail
  refine (l07Is_any W H A N c w.heap.size _ hbk.out).mono ?_
  rintro e w1 ⟨rfl, hb1⟩
  rw [HH.out]
  have hsz := hb1.size
  simp only [World.size_alloc] at hsz
  have HB := Lib.hid (HW.out.trans (hb1.mono (by simp)))
  have HK := Lib.hid (hbk.out.below hb1 (by simp))
  clear hb1
  go_wp2_with fail
  refine (l07Burn_any W H N A c w.heap.size cs _ hW hW' hH hH' HL.out HP.out HK.out ((hA.below HB.out).more (by omega))).mono ?_
  rintro e w2 ⟨At, ct, rfl, ho, hb2⟩
  rw [HT.out] at ho
  have hsz2 := hb2.size
  have HO := Lib.hid ho
  have HB2 := Lib.hid (HB.out.trans (hb2.mono (by omega)))
  have HK2 := Lib.hid (HK.out.below hb2 HK.out.lt)
  have k0 : ∀ w', Below w2.heap.size w2 w' → w'.cell? ⟨w.heap.size, 0, none⟩ = some (.int .i64 W) ∧ w'.cell? ⟨w.heap.size, 1, none⟩ = some (.int .i64 H) := fun w' h => ⟨(h.cell HK2.out.lt).trans (HK2.out.cell 0), (h.cell HK2.out.lt).trans (HK2.out.cell 1)⟩
  have K0 := Lib.hid k0
  obtain ⟨d0, d1⟩ := k0 w2 (Below.refl _ _)
  obtain ⟨gt, co', hvt, _, hgt'⟩ := ho.form (by omega)
  obtain ⟨rfl, rfl⟩ : At = some ⟨gt, 0, none⟩ ∧ ct = co' := by injection hvt with h1 _ h3; exact ⟨h1, h3⟩
  clear ho hb2 hvt k0
  go_wp2
  clear d0 d1
  go_loopw [6, 7] (fun sat si wr => ∃ (i m : Nat), R ≤ i ∧ i ≤ N ∧ si = .int .i64 i ∧ sat = .int .i64 (bestTo T R (i - R)) ∧ wr = w2.drewN m) (fun _ i _ => N - (intOf i).toNat)
  case atStart => exact ⟨R, 0, Nat.le_refl _, by omega, rfl, by rw [Nat.sub_self]; rfl, rfl⟩
  case round =>
    obtain ⟨i, m, hiR, hiN, rfl, rfl, hwr⟩ := hrel
    obtain ⟨k, hk⟩ : ∃ k, i = R + k := ⟨i - R, by omega⟩
    have hkk : i - R = k := by omega
    have bd := bestTo_bd T R k
    rw [hkk]
    obtain ⟨a, ea⟩ : ∃ a, bestTo T R k = a := ⟨_, rfl⟩
    rw [ea] at bd ⊢
    obtain ⟨bd1, bd2, bd3⟩ := bd
    by_cases hlt : i < N
    · have ho : wr.ownsRow w1.heap.size 2 1 (.slice (some ⟨gt, 0, none⟩) N ct) N (T.map iv) := hwr ▸ HO.out
      have cY := own_cellD ho hlt
      obtain ⟨y, ey⟩ : ∃ y, T.getD i (-1) = y := ⟨_, rfl⟩
      rw [ey] at cY
      have hkk1 : i + 1 - R = k + 1 := by omega
      have EA := Lib.hid ea
      have EK := Lib.hid hkk1
      have EI := Lib.hid hk
      have EY := Lib.hid ey
      have HWR := Lib.hid hwr
      by_cases hy : 0 ≤ y
      · have q0 : decide (0 ≤ y) = true := by simpa using hy
        by_cases hna : a < 0
        · have E1 : Hid (bestTo T R (k + 1) = ((R + k : Nat) : Int)) := bestTo_yes ⟨by rw [← hk, ey]; exact hy, .inl (by rw [ea]; exact hna)⟩
          clear ea hkk1 hk ey hwr ho bd3 hkk
          go_wp2
          go_quiet (fail)
          go_wp2
          go_roundw
          case rel => exact ⟨i + 1, _, by omega, by omega, by go_num, by rw [EK.out, E1.out, ← EI.out], by rw [HWR.out]; exact World.drewN_drewN _ _ _⟩
          case measure => simp [intOf]; omega
        · obtain ⟨b, rfl⟩ : ∃ b : Nat, a = (b : Int) := ⟨a.toNat, by omega⟩
          have hbN : b < N := by omega
          have hb0 : (0 : Int) ≤ (b : Int) := by omega
          have hbNI : (b : Int) < (N : Int) := by omega
          have cZ := own_cellD ho (i := b) (by omega)
          obtain ⟨z, ez⟩ : ∃ z, T.getD b (-1) = z := ⟨_, rfl⟩
          rw [ez] at cZ
          have q1 : decide ((b : Int) < 0) = false := by simp
          by_cases hyz : y < z
          · have q2 : decide (y < z) = true := by simpa using hyz
            have E1 : Hid (bestTo T R (k + 1) = ((R + k : Nat) : Int)) := bestTo_yes ⟨by rw [← hk, ey]; exact hy, .inr (by rw [ea, ← hk, ey, Int.toNat_natCast, ez]; exact hyz)⟩
            clear ea hkk1 hk ey hwr ho bd3 hkk ez
            go_wp2
            go_quiet (fail)
            go_wp2
            go_roundw
            case rel => exact ⟨i + 1, _, by omega, by omega, by go_num, by rw [EK.out, E1.out, ← EI.out], by rw [HWR.out]; exact World.drewN_drewN _ _ _⟩
            case measure => simp [intOf]; omega
          · have q2 : decide (y < z) = false := by simpa using hyz
            have E1 : Hid (bestTo T R (k + 1) = (b : Int)) := by
              rw [← ea]
              refine bestTo_no (fun h => ?_)
              rw [ea, ← hk, ey, Int.toNat_natCast, ez] at h
              omega
            clear ea hkk1 hk ey hwr ho bd3 hkk ez
            go_wp2
            go_quiet (fail)
            go_wp2
            go_roundw
            case rel => exact ⟨i + 1, _, by omega, by omega, by go_num, by rw [EK.out, E1.out], by rw [HWR.out]; exact World.drewN_drewN _ _ _⟩
            case measure => simp [intOf]; omega
      · have q0 : decide (0 ≤ y) = false := by simpa using hy
        have E1 : Hid (bestTo T R (k + 1) = a) := by
          rw [← ea]
          refine bestTo_no (fun h => ?_)
          rw [← hk, ey] at h
          exact hy h.1
        clear ea hkk1 hk ey hwr ho bd3 hkk
        go_wp2
        go_quiet (fail)
        go_wp2
        go_roundw
        case rel => exact ⟨i + 1, _, by omega, by omega, by go_num, by rw [EK.out, E1.out], by rw [HWR.out]; exact World.drewN_drewN _ _ _⟩
        case measure => simp [intOf]; omega
    · obtain rfl : i = N := by omega
      obtain rfl : k = W := by omega
      have hRR : i - k = R := by omega
      have EA : Hid (bestTo T (i - k) k = a) := by rw [hRR]; exact ea
      have HBr : Hid (Below w.heap.size w wr) := hwr ▸ below_drewN HB2.out m
      clear hRR ea hkk
      by_cases hna : a < 0
      · have E2 : Hid (fpInts T k H i = []) := by unfold fpInts; rw [fpList_no (by rw [EA.out]; exact hna)]; rfl
        have e3 : fpOk T k i = false := by unfold fpOk; rw [EA.out]; simp; exact hna
        have E3 := Lib.hid e3
        clear e3
        clear hwr hk
        go_wp2
        go_ret2
        rw [E2.out, E3.out]
        exact fpRes_nil HBr.out
      · obtain ⟨b, rfl⟩ : ∃ b : Nat, a = (b : Int) := ⟨a.toNat, by omega⟩
        have E2 : Hid (fpList T k H i = pathOf T (nbs k H) b) := fpList_yes EA.out
        have e3 : fpOk T k i = true := by unfold fpOk; rw [EA.out]; simp
        have E3 := Lib.hid e3
        clear e3
        obtain ⟨wo, hwo⟩ : ∃ x, x = wr := ⟨_, rfl⟩
        subst hwo
        have HOr : Hid (wo.ownsRow w1.heap.size 2 1 (.slice (some ⟨gt, 0, none⟩) i ct) i (T.map iv)) := hwr ▸ HO.out
        have hbi : b < i := by omega
        have HB3 : Hid (Below w2.heap.size w2 wo) := hwr ▸ below_drewN (Below.refl _ _) m
        have hzr : w2.heap.size ≤ wo.heap.size := HB3.out.size
        clear hwr hk bd3
        have K1 : Hid (∀ w', Below wo.heap.size wo w' → w'.cell? ⟨w.heap.size, 0, none⟩ = some (.int .i64 k) ∧ w'.cell? ⟨w.heap.size, 1, none⟩ = some (.int .i64 H)) := fun w' h => K0.out w' (HB3.out.trans (h.mono hzr))
        have hgtr : gt < wo.heap.size := (HOr.out.lt gt rfl).2
        have b1 : Hid (Blk (wo.alloc (.cells #[.int .i64 b] 2)) wo.heap.size 2 #[.int .i64 b]) := Blk.new _ _ _
        have hPl : (pathOf T (nbs k H) b).length ≤ 300 := by
          unfold pathOf
          rw [pathTo_len]
          have := (time_bd I.out b).2
          omega
        go_wp2
        obtain ⟨P, hP⟩ : ∃ P, pathOf T (nbs k H) b = P := ⟨_, rfl⟩
        rw [hP] at hPl
        have HP0 : Hid (([] : List Nat) ++ pathOf T (nbs k H) b = P) := by rw [List.nil_append]; exact hP
        have E4 : Hid (fpList T k H i = P) := by rw [E2.out]; exact hP
        clear hP E2
        go_loopw [6, 8] (fun sat so wr => ∃ (a : Nat) (pre : List Nat) (Al : Option Addr) (cl : Nat), sat = .int .i64 a ∧ so = .slice Al (pre.length + 1) cl ∧ a < i ∧
            wr.ownsRow w1.heap.size 2 1 (.slice (some ⟨gt, 0, none⟩) i ct) i (T.map iv) ∧ wr.ownsRow wo.heap.size 2 1 (.slice Al (pre.length + 1) cl) (pre.length + 1) ((pre ++ [a]).map nv) ∧
            Dis (.slice (some ⟨gt, 0, none⟩) i ct) (.slice Al (pre.length + 1) cl) ∧ Below wo.heap.size wo wr ∧ Hid (pre ++ pathOf T (nbs k H) a = P)) (fun sat _ _ => (T.getD (intOf sat).toNat (-1)).toNat)
        case atStart =>
          refine ⟨b, [], _, 1, rfl, rfl, hbi, HOr.out.alloc _, own_base (b1.out.own (n := 1) (size := 1) (Nat.le_refl _) rfl (by unfold maxLen; omega)) (by omega), fun j h h' => ?_, (Below.refl _ _).alloc (Nat.le_refl _) _, HP0⟩
          simp [Value.ownBlock] at h h'
          omega
        case round =>
          clear HP0 b1 HOr
          obtain ⟨a, pre, Al, cl, rfl, rfl, hai, ho, hol, hd, hb, HPP⟩ := hrel
          obtain ⟨wp, hwp⟩ : ∃ x, x = wr := ⟨_, rfl⟩
          subst hwp
          have hsz := hb.size
          have cA := own_cellD ho hai
          obtain ⟨ta, hta⟩ : ∃ ta, T.getD a (-1) = ta := ⟨_, rfl⟩
          rw [hta] at cA
          have bt := time_bd I.out a
          rw [hta] at bt
          obtain ⟨bt1, bt2⟩ := bt
          by_cases hpos : 0 < ta
          · have hst := pathOf_step (T := T) (nb := nbs k H) (a := a) (by rw [hta]; exact hpos) HDN.out
            obtain ⟨nx, hnx⟩ : ∃ nx, nextOf T (nbs k H a) a = nx := ⟨_, rfl⟩
            have hnm := nextOf_spec (HDN.out a (by rw [hta]; exact hpos))
            rw [hnx] at hnm hst
            have hpre : pre.length + 2 ≤ P.length := by
              rw [← HPP.out, hst, List.length_append, List.length_cons]
              unfold pathOf
              rw [pathTo_len]; omega
            have HST := Lib.hid hst
            have HTA := Lib.hid hta
            have HNX := Lib.hid hnx
            have HNM := Lib.hid hnm
            obtain ⟨d0, d1⟩ := K1.out wp hb
            have HO := Lib.hid ho
            have HLL := Lib.hid hol
            have HD := Lib.hid hd
            clear hst hta hnx hnm ho hol hd
            go_wp2_with (go_at_call 34; refine (beside_any k H a _ hW hW' hH hH' (by rw [HP.out]; exact hai)).mono ?_; rintro e w3 ⟨An, nn, cn, rfl, hn, hb3⟩)
            obtain ⟨bs, ebs⟩ : ∃ bs, nbs k H a = bs := ⟨_, rfl⟩
            have hbsN : ∀ x ∈ nbs k H a, x < i := fun x hx => by
              have := nbs_lt (W := k) (H := H) (i := a) (b := x) (by rw [HP.out]; exact hai) hx
              rwa [HP.out] at this
            have hnx' : nx < i := hbsN nx HNM.out.1
            rw [ebs] at hn hbsN
            have hnn : bs.length = nn := by have := hn.1; simp at this; omega
            have hnn4 : nn ≤ 4 := by rw [← hnn, ← ebs]; unfold nbs nb1 nb2 nb3 nb4; simp only [List.length_append]; repeat' split <;> simp
            have HBS := Lib.hid (And.intro hbsN (And.intro hnn ebs))
            have HO3 := Lib.hid (own_below HO.out hb3)
            have HL3 := Lib.hid (own_below HLL.out hb3)
            have HB3' := Lib.hid (hb.trans (hb3.mono hsz))
            have HN3 := Lib.hid hn
            clear hn hbsN hnn ebs hb3 HO HLL cA d0 d1
            go_loopw [10, 69] (fun sn sk wr => ∃ (j m : Nat), j ≤ nn ∧ sk = .int .i64 j ∧ sn = .int .i64 (nextTo T bs a j : Nat) ∧ wr = w3.drewN m) (fun _ sk _ => nn - (intOf sk).toNat)
            case atStart => exact ⟨0, 0, Nat.zero_le _, rfl, rfl, rfl⟩
            case round =>
              obtain ⟨j, m3, hj, rfl, rfl, hwr⟩ := hrel
              obtain ⟨x, ex⟩ : ∃ x, nextTo T bs a j = x := ⟨_, rfl⟩
              rw [ex]
              by_cases hjn : j < nn
              · obtain ⟨gn, cn', hvn, _, hgn'⟩ := HN3.out.form (by omega)
                obtain ⟨rfl, rfl⟩ : An = some ⟨gn, 0, none⟩ ∧ cn = cn' := by injection hvn with h1 _ h3; exact ⟨h1, h3⟩
                have hjb : j < bs.length := by rw [HBS.out.2.1]; exact hjn
                obtain ⟨y, ey⟩ : ∃ y, bs[j] = y := ⟨_, rfl⟩
                have hyi : y < i := HBS.out.1 y (ey ▸ List.getElem_mem hjb)
                have ey' : bs[j]? = some y := by rw [← ey]; exact List.getElem?_eq_getElem hjb
                have cB : wr.cell? ⟨gn, j, none⟩ = some (.int .i64 (y : Int)) := by
                  rw [hwr]
                  show w3.cell? _ = _
                  rw [HN3.out.cellAt _ (by omega), List.getElem?_map, ey']; rfl
                have ho3 : wr.ownsRow w1.heap.size 2 1 (.slice (some ⟨gt, 0, none⟩) i ct) i (T.map iv) := hwr ▸ HO3.out
                have cA := own_cellD ho3 hai
                have cY := own_cellD ho3 hyi
                obtain ⟨ty, hty⟩ : ∃ ty, T.getD y (-1) = ty := ⟨_, rfl⟩
                rw [hty] at cY
                rw [HTA.out] at cA
                have NS := nextTo_succ (T := T) (a := a) ey'
                rw [ex] at NS
                have hah : ahead T a y = decide (ty = ta - 1) := by unfold ahead; rw [hty, HTA.out]
                rw [hah] at NS
                have HWQ := Lib.hid hwr
                clear ey ey' hwr ho3 hvn hty hah ex
                by_cases hxa : x = a
                · obtain rfl := hxa
                  by_cases htt : ty = ta - 1
                  · rw [if_pos ⟨rfl, by simpa using htt⟩] at NS
                    have NS' := Lib.hid NS
                    have q1 : ((ty : Int) == ta - 1) = true := by simpa using htt
                    clear NS
                    clear htt
                    go_wp2
                    go_quiet (fail)
                    go_wp2
                    go_roundw
                    case rel => exact ⟨j + 1, _, by omega, by go_num, by rw [NS'.out], by rw [HWQ.out]; exact World.drewN_drewN _ _ _⟩
                    case measure => simp [intOf]; omega
                  · rw [if_neg (fun h => htt (by simpa using h.2))] at NS
                    have NS' := Lib.hid NS
                    have q1 : ((ty : Int) == ta - 1) = false := by simpa using htt
                    clear NS
                    clear htt
                    go_wp2
                    go_quiet (fail)
                    go_wp2
                    go_roundw
                    case rel => exact ⟨j + 1, _, by omega, by go_num, by rw [NS'.out], by rw [HWQ.out]; exact World.drewN_drewN _ _ _⟩
                    case measure => simp [intOf]; omega
                · rw [if_neg (fun h => hxa h.1)] at NS
                  have NS' := Lib.hid NS
                  have q1 : ((x : Int) == (a : Int)) = false := by simpa using (show ¬ (x : Int) = (a : Int) from by omega)
                  clear NS
                  go_wp2
                  go_quiet (fail)
                  go_wp2
                  go_roundw
                  case rel => exact ⟨j + 1, _, by omega, by go_num, by rw [NS'.out], by rw [HWQ.out]; exact World.drewN_drewN _ _ _⟩
                  case measure => simp [intOf]; omega
              · obtain rfl : j = nn := by omega
                have hx : x = nx := by rw [← ex, ← HNX.out, HBS.out.2.2, ← nextTo_all, HBS.out.2.1]
                obtain rfl := hx
                have HOq : Hid (wr.ownsRow w1.heap.size 2 1 (.slice (some ⟨gt, 0, none⟩) i ct) i (T.map iv)) := hwr ▸ HO3.out
                have HLq : Hid (wr.ownsRow wo.heap.size 2 1 (.slice Al (pre.length + 1) cl) (pre.length + 1) ((pre ++ [a]).map nv)) := hwr ▸ HL3.out
                have HBq : Hid (Below wo.heap.size wo wr) := hwr ▸ below_drewN HB3'.out m3
                have hzq := HBq.out.size
                clear hwr ex
                go_wp2_with (at_builtin; refine wpList_append_one (W := wr) rfl _ _ _ rfl wo.heap.size 2 (.int .i64 0) 8 Try.underlying26 intInfo rfl Al (pre.length + 1) cl _ rfl HLq.out (.int .i64 (x : Int)) _ rfl (by simp) rfl (by unfold maxLen; omega) (by omega) (by omega) ?_; intro A4 c4 w4 ho4 hg4 hd4)
                go_roundw
                case rel =>
                  refine ⟨x, pre ++ [a], A4, c4, rfl, by simp, hnx', own_kept HOq.out hg4 HD.out, ?_, ?_, HBq.out.grown hg4 hzq (fun j e => by have := (HLq.out.lt j e).1; omega), ?_⟩
                  · rw [List.length_append, List.map_append]; exact ho4
                  · rw [List.length_append]; exact (hd4 _ (Old.own HOq.out) HD.out.symm).symm
                  · have h := HPP.out
                    rw [HST.out] at h
                    rw [List.append_assoc]
                    exact h
                case measure =>
                  simp only [intOf, Int.toNat_natCast]
                  rw [HNM.out.2, HTA.out]
                  omega
          · have hst := pathOf_zero (T := T) (nb := nbs k H) (a := a) (by rw [hta]; omega)
            have hPP := HPP.out
            rw [hst] at hPP
            have HF := Lib.hid hPP
            have HLL := Lib.hid hol
            clear hst hta hPP ho hol hd
            go_wp2
            go_ret2
            have e2 : fpInts T k H i = (pre ++ [a]).map fun (n : Nat) => (n : Int) := by unfold fpInts; rw [E4.out, HF.out]
            have e3 : (fpInts T k H i).length = pre.length + 1 := by rw [e2]; simp
            have e4 : (fpInts T k H i).map iv = (pre ++ [a]).map nv := by rw [e2, List.map_map]; rfl
            refine ⟨Al, cl, ?_, ?_, HBr.out.trans (hb.mono HBr.out.size)⟩
            · rw [e3, E3.out]; rfl
            · rw [e3, e4]; exact own_base HLL.out (by omega)
end Go.Proofs.Ytoclpjhhjkcejaa
