/- Walk: the law FnMasses: it returns true. Conditions: at most 2^20 bytes each (the longer ones apart). -/
import Derived.Test.YtejmpijihmmajaaGmf
import Derived.Test.YtejmpijihmmajaaGmi
import Derived.Test.YtejmpijihmmajaaIo
import Derived.Test.YtejmpijihmmajaaHk
import Derived.Test.YtejmpijihmmajaaLc
import Derived.Test.YtejmpijihmmajaaGmk
namespace Go.Proofs.Ytejmpijihmmajaa
open Go.RowKit
open Num Quick
attribute [local go_sem] run_store_fl run_store_cx

set_option maxRecDepth 100000 in
set_option maxHeartbeats 400000 in
theorem lawGm_long (A1 A2 : Option Addr) (n1 c1 n2 c2 : Nat) (w : World) (hn1 : n1 ≤ maxLen) (hn2 : n2 ≤ maxLen) (hbig : ¬ (n1 ≤ 1048576 ∧ n2 ≤ 1048576)) :
    Calls Try.prog 3 #[.slice A1 n1 c1, .slice A2 n2 c2] w fun e w' => e = .returned (.bool true) ∧ Below w.heap.size w w' := by
  have e : (decide (1048576 < n1) || decide (1048576 < n2)) = true := by
    by_cases h : n1 ≤ 1048576
    · have : 1048576 < n2 := by omega
      simp [this]
    · have : 1048576 < n1 := by omega
      simp [this]
  have LC := b10Long_any A1 A2 n1 c1 n2 c2 w hn1 hn2
  rw [e] at LC
  have LCH := Lib.hid LC
  clear LC e
  go_enter Try.func3, Try.ntmps3
  go_wp2_with fail
  refine LCH.out.mono ?_
  rintro e w1 ⟨rfl, rfl⟩
  go_wp2
  go_ret
  exact ⟨rfl, Below.refl _ _⟩
set_option maxRecDepth 100000 in
set_option maxHeartbeats 16000000 in
theorem lawGm_any (A1 A2 : Option Addr) (n1 c1 n2 c2 : Nat) (bs bs2 : List Nat) (w : World) (hn1 : n1 ≤ 1048576) (hn2 : n2 ≤ 1048576) (hc1 : n1 ≤ c1) (hbs : ∀ x ∈ bs, x < 256) (hbs2 : ∀ x ∈ bs2, x < 256) (hA : Rd w w.heap.size 1 A1 n1 (bs.map u8v)) (hA2 : Rd w w.heap.size 1 A2 n2 (bs2.map u8v)) :
    Calls Try.prog 3 #[.slice A1 n1 c1, .slice A2 n2 c2] w fun e w' => e = .returned (.bool true) ∧ Below w.heap.size w w' := by
  have LC := b10Long_any A1 A2 n1 c1 n2 c2 w (by unfold maxLen; omega) (by unfold maxLen; omega)
  rw [show (decide (1048576 < n1) || decide (1048576 < n2)) = false by simp; omega] at LC
  have LCH := Lib.hid LC
  have FC := Lib.hid (B10Field_any n1 c1 A1 bs w hn1 hc1 hbs hA)
  have hl2 : bs2.length = n2 := by have := hA2.len; simpa using this
  obtain ⟨X, hX, XC⟩ := b10At_val A2 n2 c2 0 6 bs2 hl2 hn2 (by omega) (by omega) (by omega) hbs2
  obtain ⟨Y, hY, YC⟩ := b10At_val A2 n2 c2 1 6 bs2 hl2 hn2 (by omega) (by omega) (by omega) hbs2
  obtain ⟨Z, hZ, ZC⟩ := b10At_val A2 n2 c2 2 13 bs2 hl2 hn2 (by omega) (by omega) (by omega) hbs2
  replace XC := Lib.hid (fun w' (hb : Below w.heap.size w w') => XC _ _ (hA2.below hb))
  replace YC := Lib.hid (fun w' (hb : Below w.heap.size w w') => YC _ _ (hA2.below hb))
  replace ZC := Lib.hid (fun w' (hb : Below w.heap.size w w') => ZC _ _ (hA2.below hb))
  clear LC hA hbs hA2 hbs2 hl2
  go_enter Try.func3, Try.ntmps3
  go_wp2_with fail
  refine LCH.out.mono ?_
  rintro e w0 ⟨rfl, hw0⟩
  obtain rfl := hw0.symm
  go_wp2_with fail
  refine FC.out.mono ?_
  rintro e w1 ⟨W, H, cs, Ao, co, rfl, h1, h2, h3, h4, hcl, ho, hb⟩
  obtain ⟨N, eN⟩ : ∃ N, W * H = N := ⟨_, rfl⟩
  rw [eN] at hcl
  rw [hcl] at ho ⊢
  have hN1 : 1 ≤ N := by rw [← eN]; exact Nat.le_trans h1 (Nat.le_mul_of_pos_right W h3)
  have hN36 : N ≤ 36 := by rw [← eN]; exact Nat.mul_le_mul h2 h4
  obtain ⟨w2, ew2⟩ : ∃ w2, w2 = w1.alloc (.cells #[.int .i64 (W : Int), .int .i64 (H : Int), .slice Ao N co] 26) := ⟨_, rfl⟩
  obtain ⟨gf, egf⟩ : ∃ g, w1.heap.size = g := ⟨_, rfl⟩
  have S2 : Hid (Held [.low w, .rd gf 1 Ao N (cs.map bv), .blk gf 26 #[.int .i64 (W : Int), .int .i64 (H : Int), .slice Ao N co]] w2) := by
    have F2 : Blk w2 w1.heap.size 26 #[.int .i64 (W : Int), .int .i64 (H : Int), .slice Ao N co] := by rw [ew2]; exact Blk.new _ _ _
    have V2 : Below w.heap.size w w2 := by rw [ew2]; exact hb.alloc hb.size _
    have R2 : Rd w2 w1.heap.size 1 Ao N (cs.map bv) := by rw [ew2]; exact (Rd.own ho).below ((Below.refl _ _).alloc (Nat.le_refl _) _)
    have Z2 : w1.heap.size ≤ w2.heap.size := Nat.le_of_lt F2.lt
    rw [egf] at F2 R2 Z2
    exact (((Held.nil w2).put (f := .blk gf _ _) F2).put (f := .rd gf 1 Ao N _) ⟨Z2, R2⟩).put (f := .low w) ⟨V2.size, V2⟩
  have CC := Lib.hid (fun w' hR => CountCells_ok W H N Ao co cs w' h1 (by omega) h3 (by omega) hcl eN hR)
  have MC := Lib.hid (fun w' hR => MiddleOf_ok W H N Ao co cs w' h1 h2 h3 h4 hcl eN hR)
  have QC := Lib.hid (fun w' hR => MassesOf_ok W H N X Y Ao co cs w' h1 h2 h3 h4 hcl eN (by omega) (by omega) hR)
  have HFL := fulls_le cs N
  have HPL := Lib.hid (plc_length cs W N)
  have E2 := Lib.hid ew2
  unfold fieldV at CC MC QC ⊢
  have z0 : w2.cell? ⟨w1.heap.size, 0, none⟩ = some (.int .i64 (W : Int)) := by rw [egf]; exact (S2.out.blk 2 rfl).cell 0
  have z1 : w2.cell? ⟨w1.heap.size, 1, none⟩ = some (.int .i64 (H : Int)) := by rw [egf]; exact (S2.out.blk 2 rfl).cell 1
  have z2 : w2.cell? ⟨w1.heap.size, 2, none⟩ = some (.slice Ao N co) := by rw [egf]; exact (S2.out.blk 2 rfl).cell 2
  rw [ew2] at z0 z1 z2
  clear ho hb ew2 hcl eN FC LCH hw0
  go_wp2_with fail
  rw [← E2.out]
  refine (CC.out _ (S2.out.rd 1 rfl)).mono ?_
  rintro e w3 ⟨rfl, hb⟩
  have S3 := Lib.hid (S2.out.below hb)
  clear hb S2 z0 z1 z2 E2
  obtain ⟨M, eM⟩ : ∃ M, (fulls cs N).length = M := ⟨_, rfl⟩
  rw [eM] at HFL HPL MC ⊢
  clear eM egf CC
  have z0 := (S3.out.blk 2 rfl).cell 0
  have z1 := (S3.out.blk 2 rfl).cell 1
  have z2 := (S3.out.blk 2 rfl).cell 2
  go_wp2_with fail
  refine (MC.out _ (S3.out.rd 1 rfl)).mono ?_
  rintro e w4 ⟨ma, mb, mr, rfl, BA, BB, BR, hb⟩
  have S4 := Lib.hid (S3.out.below hb)
  have HBA := Lib.hid BA
  have HBB := Lib.hid BB
  have HBR := Lib.hid BR
  clear hb S3 z0 z1 z2 MC BA BB BR
  obtain ⟨q, eq⟩ : ∃ q, decide (0 < M) = q := ⟨_, rfl⟩
  rw [eq]
  have HQ := Lib.hid eq
  clear eq
  have z0 := (S4.out.blk 2 rfl).cell 0
  have z1 := (S4.out.blk 2 rfl).cell 1
  have z2 := (S4.out.blk 2 rfl).cell 2
  have QX := rInt32 (X : Int)
  have QY := rInt32 (Y : Int)
  rw [show floatOfInt .f32 (X : Int) = iw X from rfl] at QX
  rw [show floatOfInt .f32 (Y : Int) = iw Y from rfl] at QY
  have SF : Hid (∀ w', Below w4.heap.size w4 w' → w'.cell? ⟨gf, 0, none⟩ = some (.int .i64 (W : Int)) ∧ w'.cell? ⟨gf, 1, none⟩ = some (.int .i64 (H : Int)) ∧ w'.cell? ⟨gf, 2, none⟩ = some (.slice Ao N co) ∧ Below w.heap.size w w' ∧ Rd w' w'.heap.size 1 Ao N (cs.map bv)) := Lib.hid fun w' hb => by
    have := S4.out.below hb
    exact ⟨(this.blk 2 rfl).cell 0, (this.blk 2 rfl).cell 1, (this.blk 2 rfl).cell 2, (this.low 0 rfl).2, this.rd 1 rfl⟩
  have SP : Hid (∀ w', Below w4.heap.size w4 w' → (w'.cell? ⟨gf, 0, none⟩ = some (.int .i64 (W : Int)) ∧ w'.cell? ⟨gf, 1, none⟩ = some (.int .i64 (H : Int)) ∧ w'.cell? ⟨gf, 2, none⟩ = some (.slice Ao N co) ∧ Below w4.heap.size w4 w')) := Lib.hid fun w' h => ⟨(SF.out w' h).1, (SF.out w' h).2.1, (SF.out w' h).2.2.1, h⟩
  have QCH := Lib.hid (fun w' (h : (w'.cell? ⟨gf, 0, none⟩ = some (.int .i64 (W : Int)) ∧ w'.cell? ⟨gf, 1, none⟩ = some (.int .i64 (H : Int)) ∧ w'.cell? ⟨gf, 2, none⟩ = some (.slice Ao N co) ∧ Below w4.heap.size w4 w')) => QC.out w' (SF.out w' h.2.2.2).2.2.2.2)
  have XYC : Hid (∀ w', (w'.cell? ⟨gf, 0, none⟩ = some (.int .i64 (W : Int)) ∧ w'.cell? ⟨gf, 1, none⟩ = some (.int .i64 (H : Int)) ∧ w'.cell? ⟨gf, 2, none⟩ = some (.slice Ao N co) ∧ Below w4.heap.size w4 w') → ∀ z : Int, z = 0 ∨ z = 1 → Calls Try.prog 9 #[.slice A2 n2 c2, .int .i64 z, .int .i64 6] w' fun e w'' => e = .returned (.int .i64 (if z = 0 then (X : Int) else (Y : Int))) ∧ w'' = w') := Lib.hid fun w' h z hz => by
    rcases hz with rfl | rfl
    · exact XC.out w' (SF.out w' h.2.2.2).2.2.2.1
    · exact YC.out w' (SF.out w' h.2.2.2).2.2.2.1
  generalize iw X = fX at *
  generalize iw Y = fY at *
  go_wp2
  go_region_held3 (fun w' => w'.cell? ⟨gf, 0, none⟩ = some (.int .i64 (W : Int)) ∧ w'.cell? ⟨gf, 1, none⟩ = some (.int .i64 (H : Int)) ∧ w'.cell? ⟨gf, 2, none⟩ = some (.slice Ao N co) ∧ Below w4.heap.size w4 w')
    (first
      | exact ⟨z0, z1, z2, (Below.refl _ _).drew⟩
      | exact SP.out _ H5.out
      | go_keep)
    (first
      | (go_at_call 9; refine (XYC.out _ (by assumption) _ (by first | exact .inl rfl | exact .inr rfl)).mono ?_; rintro e w5 ⟨rfl, hw5⟩; obtain rfl := hw5.symm; first | rw [if_pos rfl] | rw [if_neg (by decide)])
      | (go_at_call 8; refine (QCH.out _ (by assumption)).mono ?_; rintro e w5 ⟨L, gm, cm, rfl, hL, ho, hb⟩
         have H5 : Hid (Below w4.heap.size w4 w5) := Lib.hid ((Below.refl w4.heap.size w4).drew.trans (hb.mono (Nat.le_refl _)))
         have S5 := Lib.hid (S4.out.below H5.out)))
  have HLL := Lib.hid hL
  have R5 : Hid (Rd w5 w5.heap.size 1 (some ⟨gm, 0, none⟩) 12 ((massL L (plc cs W N) 12).map nv)) := Lib.hid (Rd.own ho)
  have hMO : Hid (massN L (plc cs W N) 12 = M) := by rw [← HPL.out]; exact Lib.hid (massN_12 hL)
  have S6 := Lib.hid (S5.out.add (f := .rd w5.heap.size 1 (some ⟨gm, 0, none⟩) 12 ((massL L (plc cs W N) 12).map nv)) ⟨Nat.le_refl _, R5.out⟩)
  have cM : w5.cell? ⟨gm, 11, none⟩ = some (.int .i64 (M : Int)) := by
    obtain ⟨b, off, hbo, hbb, hc⟩ := R5.out.2 (by omega)
    obtain ⟨rfl, rfl⟩ : gm = b ∧ 0 = off := by injection hbo with e; injection e with e1 e2; exact ⟨e1, e2⟩
    have := hc 11 _ (nv_get (massL_length L (plc cs W N) 12) (by omega))
    rw [massL_get (by omega), hMO.out] at this
    exact this
  clear hL ho hb H5 S4 S5 R5 SP SF QCH XYC z0 z1 z2
  have hq2 : decide (0 < M) = q := HQ.out
  go_wp2
  clear cM hq2
  go_loopw [88] (fun sk wr => ∃ k : Nat, k ≤ 12 ∧ sk = .int .i64 (k : Int) ∧ Hid (Held ([.low w, .rd gf 1 Ao N (cs.map bv), .blk gf 26 #[.int .i64 (W : Int), .int .i64 (H : Int), .slice Ao N co]] ++ [.rd w5.heap.size 1 (some ⟨gm, 0, none⟩) 12 ((massL L (plc cs W N) 12).map nv)]) wr)) (fun sk _ => 12 - (intOf sk).toNat)
  case atStart => exact ⟨0, Nat.zero_le _, rfl, S6⟩
  case round =>
    clear S6
    obtain ⟨k, hk, rfl, S⟩ := hrel
    by_cases hlt : k < 12
    · have R := Lib.hid (S.out.rd 3 rfl)
      have CM : Hid (∀ j < 12, wr.cell? ⟨gm, j, none⟩ = some (.int .i64 ((massN L (plc cs W N) (j + 1) : Nat) : Int))) := by
        refine Lib.hid fun j hj => ?_
        obtain ⟨b, off, hbo, hbb, hc⟩ := R.out.2 (by omega)
        obtain ⟨rfl, rfl⟩ : gm = b ∧ 0 = off := by injection hbo with e; injection e with e1 e2; exact ⟨e1, e2⟩
        have := hc j _ (nv_get (massL_length L (plc cs W N) 12) hj)
        rw [massL_get hj, Nat.zero_add] at this
        exact this
      have c1 := CM.out k hlt
      have hkI : (k : Int) < 12 := by omega
      by_cases h0 : k = 0
      · subst h0
        obtain ⟨y, ey⟩ : ∃ y : Int, ((massN L (plc cs W N) (0 + 1) : Nat) : Int) = y := ⟨_, rfl⟩
        rw [ey] at c1
        have hy0 : decide (y < 0) = false := by simp; omega
        clear ey
        go_wp2
        go_quiet (fail)
        go_wp2
        go_roundw
        case rel => exact ⟨1, by omega, by go_num, Lib.hid (S.out.drewN _)⟩
        case measure => simp [intOf]
      · obtain ⟨j, hj⟩ : ∃ j, k = j + 1 := ⟨k - 1, by omega⟩
        have c2 := CM.out j (by omega)
        have hmo : massN L (plc cs W N) (j + 1) ≤ massN L (plc cs W N) (k + 1) := by rw [hj]; exact massN_mono _ _ _
        have e1 : (k : Int) - 1 = (j : Int) := by omega
        obtain ⟨y, ey⟩ : ∃ y : Int, ((massN L (plc cs W N) (k + 1) : Nat) : Int) = y := ⟨_, rfl⟩
        obtain ⟨x, ex⟩ : ∃ x : Int, ((massN L (plc cs W N) (j + 1) : Nat) : Int) = x := ⟨_, rfl⟩
        rw [ey] at c1
        rw [ex] at c2
        have hy0 : decide (y < 0) = false := by simp; omega
        have hyx : decide (y < x) = false := by simp; omega
        clear ex ey hmo
        have hkN : 0 < k := by omega
        have HJ := Lib.hid hj
        clear hj CM
        go_wp2
        go_quiet (fail)
        go_wp2
        go_roundw
        case rel => exact ⟨k + 1, by omega, by go_num, Lib.hid (S.out.drewN _)⟩
        case measure => simp [intOf]; omega
    · obtain rfl : k = 12 := by omega
      clear hlt hk
      have z0 := (S.out.blk 2 rfl).cell 0
      have z1 := (S.out.blk 2 rfl).cell 1
      obtain ⟨w6, hw6⟩ : ∃ x, x = wr := ⟨_, rfl⟩
      subst hw6
      obtain ⟨Wm, hWm⟩ : ∃ m, W - 1 = m := ⟨_, rfl⟩
      obtain ⟨Hm, hHm⟩ : ∃ m, H - 1 = m := ⟨_, rfl⟩
      rw [hWm] at HBA
      rw [hHm] at HBB
      have hW100 : Wm ≤ 100 := by rw [← hWm]; omega
      have hH100 : Hm ≤ 100 := by rw [← hHm]; omega
      have eW : (W : Int) - 1 = (Wm : Int) := by omega
      have eH : (H : Int) - 1 = (Hm : Int) := by omega
      have MA := mid_facts HBA.out hW100
      have MB := mid_facts HBB.out hH100
      obtain ⟨xa, sa, xa1, sa1, o1⟩ := MA
      obtain ⟨xb, sb, xb1, sb1, o2⟩ := MB
      obtain ⟨xr, xr1, o3⟩ := wide_facts HBR.out
      have o4 := btw_lt HBA.out
      have o5 := btw_lt HBB.out
      have o6 := btw_lt HBR.out
      have k1 := rWide xa1
      have k2 := rWide xb1
      have k3 := rWide xr1
      have k4 := r64 sa1
      have k5 := r64 sb1
      have k6 := rInt64 (Wm : Int)
      have k7 := rInt64 (Hm : Int)
      generalize floatOfInt .f64 (Wm : Int) = fw at *
      generalize floatOfInt .f64 (Hm : Int) = fh at *
      clear hWm hHm xa1 sa1 xb1 sb1 xr1 HBA HBB HBR HQ
      cases q
      all_goals
        go_wp2_with fail
        refine (ring_new _).mono ?_
        rintro e w7 ⟨g7, c7, rfl, hr7, hb⟩
        have L7 := Lib.hid ((S.out.low 0 rfl).2.trans (hb.mono (S.out.low 0 rfl).1))
        obtain ⟨w8, ew8⟩ : ∃ x, x = w7.alloc (.cells #[.int .i64 5, .int .i64 4, .slice (some ⟨g7, 0, none⟩) 20 c7] 26) := ⟨_, rfl⟩
        obtain ⟨w9, ew9⟩ : ∃ x, x = w8.alloc (.cells #[.int .i64 0, .int .i64 1, .int .i64 2, .int .i64 3, .int .i64 4, .int .i64 5, .int .i64 9, .int .i64 10, .int .i64 14, .int .i64 15, .int .i64 16, .int .i64 17, .int .i64 18, .int .i64 19] 2) := ⟨_, rfl⟩
        have E8 := Lib.hid ew8
        have E9 := Lib.hid ew9
        have Z7 := hb.size
        have G8 : Blk w8 w7.heap.size 26 #[.int .i64 5, .int .i64 4, .slice (some ⟨g7, 0, none⟩) 20 c7] := by rw [ew8]; exact Blk.new _ _ _
        have G9 : Blk w9 w8.heap.size 2 (ringD.map nv).toArray := by rw [ew9, ring_nv]; exact Blk.new _ _ _
        have B8 : Below w7.heap.size w7 w8 := by rw [ew8]; exact (Below.refl _ _).alloc (Nat.le_refl _) _
        have B9 : Below w8.heap.size w8 w9 := by rw [ew9]; exact (Below.refl _ _).alloc (Nat.le_refl _) _
        have S9 : Hid (Held [.low w, .rd w7.heap.size 1 (some ⟨g7, 0, none⟩) 20 (ring0.map bv), .blk w7.heap.size 26 #[.int .i64 5, .int .i64 4, .slice (some ⟨g7, 0, none⟩) 20 c7], .rd w9.heap.size 1 (some ⟨w8.heap.size, 0, none⟩) 14 (ringD.map nv)] w9) := by
          have t1 : Held [.low w, .rd w7.heap.size 1 (some ⟨g7, 0, none⟩) 20 (ring0.map bv)] w7 := ((Held.nil w7).put (f := .rd w7.heap.size 1 (some ⟨g7, 0, none⟩) 20 (ring0.map bv)) ⟨Nat.le_refl _, hr7⟩).put (f := .low w) ⟨L7.out.size, L7.out⟩
          have t2 := ((t1.below B8).add (f := .blk w7.heap.size 26 #[.int .i64 5, .int .i64 4, .slice (some ⟨g7, 0, none⟩) 20 c7]) G8).below B9
          exact t2.add (f := .rd w9.heap.size 1 (some ⟨w8.heap.size, 0, none⟩) 14 (ringD.map nv)) ⟨Nat.le_refl _, Rd.own (G9.own (n := 14) (size := 1) (Nat.le_refl _) rfl (by unfold maxLen; omega))⟩
        obtain ⟨g8, eg8⟩ : ∃ g, w7.heap.size = g := ⟨_, rfl⟩
        have eg9 : w8.heap.size = g8 + 1 := by rw [ew8, ← eg8]; simp
        obtain ⟨b9, eb9⟩ : ∃ g, w9.heap.size = g := ⟨_, rfl⟩
        rw [eg8, eg9, eb9] at S9
        have z0' := (S9.out.blk 2 rfl).cell 0
        have z1' := (S9.out.blk 2 rfl).cell 1
        have z2' := (S9.out.blk 2 rfl).cell 2
        have y0 := z0'
        have y1 := z1'
        have y2 := z2'
        rw [ew9, ew8] at y0 y1 y2
        clear ew8 ew9 hb z0 z1 k1 k2 k3 k4 k5 k6 k7 o1 o2 o3 o4 o5 o6 eW eH hr7 L7 S G8 G9 B8 B9 Z7
        go_wp2_with fail
        rw [← E8.out, ← E9.out]
        clear y0 y1 y2 z0' z1' z2' E8 E9
        refine (ring_flips (some ⟨g7, 0, none⟩) (some ⟨g8 + 1, 0, none⟩) c7 14 14 ring0 ringD w9 rfl rfl (by omega) ring_lt ring_inc (S9.out.rd 1 rfl) (S9.out.rd 3 rfl)).mono ?_
        rintro e w10 ⟨g10, c10, rfl, hr10, hb⟩
        rw [ring_flip] at hr10
        obtain ⟨w11, ew11⟩ : ∃ x, x = w10.alloc (.cells #[.int .i64 5, .int .i64 4, .slice (some ⟨g10, 0, none⟩) 20 c10] 26) := ⟨_, rfl⟩
        have E11 := Lib.hid ew11
        obtain ⟨g11, eg11⟩ : ∃ g, w10.heap.size = g := ⟨_, rfl⟩
        have S11 : Hid (Held ([.low w, .rd g8 1 (some ⟨g7, 0, none⟩) 20 (ring0.map bv), .blk g8 26 #[.int .i64 5, .int .i64 4, .slice (some ⟨g7, 0, none⟩) 20 c7], .rd b9 1 (some ⟨g8 + 1, 0, none⟩) 14 (ringD.map nv)] ++ [.rd g11 1 (some ⟨g10, 0, none⟩) 20 (ring1.map bv)] ++ [.blk g11 26 #[.int .i64 5, .int .i64 4, .slice (some ⟨g10, 0, none⟩) 20 c10]]) w11) := by
          have G11 : Blk w11 w10.heap.size 26 #[.int .i64 5, .int .i64 4, .slice (some ⟨g10, 0, none⟩) 20 c10] := by rw [ew11]; exact Blk.new _ _ _
          have B11 : Below w10.heap.size w10 w11 := by rw [ew11]; exact (Below.refl _ _).alloc (Nat.le_refl _) _
          have t2 := (((S9.out.below hb).add (f := .rd w10.heap.size 1 (some ⟨g10, 0, none⟩) 20 (ring1.map bv)) ⟨Nat.le_refl _, hr10⟩).below B11).add (f := .blk w10.heap.size 26 #[.int .i64 5, .int .i64 4, .slice (some ⟨g10, 0, none⟩) 20 c10]) G11
          rw [eg11] at t2
          exact t2
        have y0 := (S11.out.blk 5 rfl).cell 0
        have y1 := (S11.out.blk 5 rfl).cell 1
        have y2 := (S11.out.blk 5 rfl).cell 2
        rw [ew11] at y0 y1 y2
        clear ew11 hr10 hb S9
        go_wp2_with fail
        rw [← E11.out]
        clear y0 y1 y2 E11 eg11 eg9 eg8 eb9
        refine (ring_holes (some ⟨g10, 0, none⟩) c10 ring1 w11 rfl (S11.out.rd 4 rfl)).mono ?_
        rintro e w12 ⟨hh, rfl, hx, hb⟩
        have hh1 := ring_one hx
        subst hh1
        have S12 := Lib.hid (S11.out.below hb)
        clear hx hb S11
        obtain ⟨d, hd⟩ : ∃ d, ringD.getD Z 0 = d := ⟨_, rfl⟩
        have hd20 : d < 20 := by rw [← hd]; exact ring_lt _ (by
          have hkl : Z < ringD.length := Nat.lt_of_lt_of_le hZ (by decide)
          rw [List.getD_eq_getElem?_getD, List.getElem?_eq_getElem hkl]
          exact List.getElem_mem hkl)
        have SP : Hid (∀ w', Below w12.heap.size w12 w' → (w'.cell? ⟨g11, 0, none⟩ = some (.int .i64 5) ∧ w'.cell? ⟨g11, 1, none⟩ = some (.int .i64 4) ∧ w'.cell? ⟨g11, 2, none⟩ = some (.slice (some ⟨g10, 0, none⟩) 20 c10) ∧ w'.cell? ⟨g8 + 1, Z, none⟩ = some (.int .i64 (d : Int)) ∧ Below w12.heap.size w12 w')) := Lib.hid fun w' hb => by
          have T := S12.out.below hb
          refine ⟨(T.blk 5 rfl).cell 0, (T.blk 5 rfl).cell 1, (T.blk 5 rfl).cell 2, ?_, hb⟩
          obtain ⟨b, off, hbo, hbb, hc⟩ := (T.rd 3 rfl).2 (by omega)
          obtain ⟨rfl, rfl⟩ : g8 + 1 = b ∧ 0 = off := by injection hbo with e; injection e with e1 e2; exact ⟨e1, e2⟩
          have := hc Z _ (nv_get (D := ringD) (l := 14) rfl (by omega))
          rw [hd, Nat.zero_add] at this
          exact this
        have ZCH : Hid (∀ w', (w'.cell? ⟨g11, 0, none⟩ = some (.int .i64 5) ∧ w'.cell? ⟨g11, 1, none⟩ = some (.int .i64 4) ∧ w'.cell? ⟨g11, 2, none⟩ = some (.slice (some ⟨g10, 0, none⟩) 20 c10) ∧ w'.cell? ⟨g8 + 1, Z, none⟩ = some (.int .i64 (d : Int)) ∧ Below w12.heap.size w12 w') → Calls Try.prog 9 #[.slice A2 n2 c2, .int .i64 2, .int .i64 13] w' fun e w'' => e = .returned (.int .i64 (Z : Int)) ∧ w'' = w') := Lib.hid fun w' h => ZC.out w' ((S12.out.low 0 rfl).2.trans (h.2.2.2.2.mono (S12.out.low 0 rfl).1))
        have FCH : Hid (∀ w' A, (w'.cell? ⟨g11, 0, none⟩ = some (.int .i64 5) ∧ w'.cell? ⟨g11, 1, none⟩ = some (.int .i64 4) ∧ w'.cell? ⟨g11, 2, none⟩ = some (.slice (some ⟨g10, 0, none⟩) 20 c10) ∧ w'.cell? ⟨g8 + 1, Z, none⟩ = some (.int .i64 (d : Int)) ∧ Below w12.heap.size w12 w') → Rd w' w'.heap.size 1 A 1 [.int .i64 (d : Int)] → Calls Try.prog 11 #[.agg #[.int .i64 5, .int .i64 4, .slice (some ⟨g10, 0, none⟩) 20 c10], .slice A 1 1] w' fun e w'' => ∃ g c', e = .returned (.tuple #[.agg #[.int .i64 5, .int .i64 4, .slice (some ⟨g, 0, none⟩) 20 c'], .bool true]) ∧ w''.ownsRow w'.heap.size 4 1 (.slice (some ⟨g, 0, none⟩) 20 c') 20 ((flips [d] ring1).map bv) ∧ Below w'.heap.size w' w'') := Lib.hid fun w' A h hA => by
          refine ring_flips' (some ⟨g10, 0, none⟩) A c10 1 1 ring1 [d] w' rfl rfl (by omega) (fun x hx => by simp at hx; omega) (fun j hj => by simp at hj) ((S12.out.below h.2.2.2.2).rd 4 rfl) hA
        have hZI : (Z : Int) < 14 := by omega
        have hZ0 : (0 : Int) ≤ (Z : Int) := by omega
        have hZ14 : Z < 14 := by omega
        obtain ⟨p0, p1, p2, p3, p4⟩ := SP.out _ (Below.refl _ w12)
        clear p4 hd
        have P1 := Lib.hid (rd_new1 w12 (.int .i64 (d : Int)) 2)
        have P3 := Lib.hid (rd_new3 w12 (.int .i64 (d : Int)) 2 (.cells #[.int .i64 0, .int .i64 0, .slice none 0 0] 26))
        have P2 := Lib.hid (rd_new2 w12 (.int .i64 (d : Int)) 2 (.cells #[.int .i64 0, .int .i64 0, .slice none 0 0] 26))
        go_wp2
        go_region_held3 (fun w' => w'.cell? ⟨g11, 0, none⟩ = some (.int .i64 5) ∧ w'.cell? ⟨g11, 1, none⟩ = some (.int .i64 4) ∧ w'.cell? ⟨g11, 2, none⟩ = some (.slice (some ⟨g10, 0, none⟩) 20 c10) ∧ w'.cell? ⟨g8 + 1, Z, none⟩ = some (.int .i64 (d : Int)) ∧ Below w12.heap.size w12 w')
          (first
            | exact SP.out _ (Below.refl _ _).drew
            | exact SP.out _ ((Below.refl _ _).alloc (Nat.le_refl _) _).drew
            | exact SP.out _ (((Below.refl _ _).alloc (Nat.le_refl _) _).alloc (by simp) _).drew
            | exact SP.out _ H13.out
            | exact SP.out _ (H13.out.alloc Z13.out _)
            | exact SP.out _ (((H13.out.setCell Q13.out _).setCell Q13.out _).setCell Q13.out _)
            | go_keep)
          (first
            | (go_at_call 9; refine (ZCH.out _ (by assumption)).mono ?_; rintro e w5 ⟨rfl, hw5⟩; obtain rfl := hw5.symm)
            | (go_at_call 11; refine (FCH.out _ _ (by assumption) (by with_reducible exact P1.out)).mono ?_; rintro e w13 ⟨g13, c13, rfl, ho13, hb13⟩
               have H13 : Hid (Below w12.heap.size w12 w13) := Lib.hid (((Below.refl _ _).alloc (Nat.le_refl _) _).drew.trans (hb13.mono (by show _ ≤ (w12.alloc _).heap.size; simp)))
               have Z13 : Hid (w12.heap.size ≤ w13.heap.size) := Lib.hid H13.out.size
               have K13 : Hid (Blk (w13.alloc (.cells #[.int .i64 0, .int .i64 0, .slice none 0 0] 26)) w13.heap.size 26 #[.int .i64 0, .int .i64 0, .slice none 0 0]) := Lib.hid (Blk.new _ _ _)
               obtain ⟨r0, f0, r1, f1, r2, f2⟩ := blk_three K13.out
               have Q13 := Z13
               have O13 := Lib.hid ho13
               have G13 : Hid (w12.heap.size + 1 ≤ g13) := Lib.hid (by have := (ho13.lt g13 rfl).1; have e : w12.heap.size + 1 ≤ _ := Nat.le_trans (by first | (show _ ≤ (w12.alloc _).heap.size; simp; done) | (show _ ≤ ((w12.alloc _).alloc _).heap.size; simp; done)) this; exact e)
               clear hb13 ho13)
            | (go_at_call 11; refine (FCH.out _ _ (by assumption) (by with_reducible exact P2.out)).mono ?_; rintro e w13 ⟨g13, c13, rfl, ho13, hb13⟩
               have H13 : Hid (Below w12.heap.size w12 w13) := Lib.hid ((((Below.refl _ _).alloc (Nat.le_refl _) _).alloc (by simp) _).drew.trans (hb13.mono (by show _ ≤ ((w12.alloc _).alloc _).heap.size; simp; omega)))
               have Z13 : Hid (w12.heap.size ≤ w13.heap.size) := Lib.hid H13.out.size
               have K13 : Hid (Blk w13 (w12.heap.size + 1) 26 #[.int .i64 0, .int .i64 0, .slice none 0 0]) := by
                 have : Blk ((w12.alloc (.cells #[.int .i64 (d : Int)] 2)).alloc (.cells #[.int .i64 0, .int .i64 0, .slice none 0 0] 26)).drew (w12.alloc (.cells #[.int .i64 (d : Int)] 2)).heap.size 26 #[.int .i64 0, .int .i64 0, .slice none 0 0] := (Blk.new _ _ _).drew
                 have e : (w12.alloc (.cells #[.int .i64 (d : Int)] 2)).heap.size = w12.heap.size + 1 := by simp
                 rw [e] at this
                 exact Lib.hid (this.below hb13 this.lt)
               obtain ⟨r0, f0, r1, f1, r2, f2⟩ := blk_three K13.out
               have Q13 : Hid (w12.heap.size ≤ w12.heap.size + 1) := Lib.hid (Nat.le_succ _)
               have O13 := Lib.hid ho13
               have G13 : Hid (w12.heap.size + 2 ≤ g13) := Lib.hid (by have := (ho13.lt g13 rfl).1; exact Nat.le_trans (by show _ ≤ ((w12.alloc _).alloc _).heap.size; simp) this)
               clear hb13 ho13)
            | (go_at_call 11; refine (FCH.out _ _ (by assumption) (by with_reducible exact P3.out)).mono ?_; rintro e w13 ⟨g13, c13, rfl, ho13, hb13⟩
               have H13 : Hid (Below w12.heap.size w12 w13) := Lib.hid ((((Below.refl _ _).alloc (Nat.le_refl _) _).alloc (by simp) _).drew.trans (hb13.mono (by show _ ≤ ((w12.alloc _).alloc _).heap.size; simp; omega)))
               have Z13 : Hid (w12.heap.size ≤ w13.heap.size) := Lib.hid H13.out.size
               have K13 : Hid (Blk w13 w12.heap.size 26 #[.int .i64 0, .int .i64 0, .slice none 0 0]) := by
                 have : Blk ((w12.alloc (.cells #[.int .i64 0, .int .i64 0, .slice none 0 0] 26)).alloc (.cells #[.int .i64 (d : Int)] 2)).drew w12.heap.size 26 #[.int .i64 0, .int .i64 0, .slice none 0 0] := ((Blk.new _ _ _).alloc _).drew
                 exact Lib.hid (this.below hb13 this.lt)
               obtain ⟨r0, f0, r1, f1, r2, f2⟩ := blk_three K13.out
               have Q13 : Hid (w12.heap.size ≤ w12.heap.size) := Lib.hid (Nat.le_refl _)
               have O13 := Lib.hid ho13
               have G13 : Hid (w12.heap.size + 2 ≤ g13) := Lib.hid (by have := (ho13.lt g13 rfl).1; exact Nat.le_trans (by show _ ≤ ((w12.alloc _).alloc _).heap.size; simp) this)
               clear hb13 ho13))
        all_goals
          first
          | (have KK : Blk (w13.alloc (.cells #[.int .i64 0, .int .i64 0, .slice none 0 0] 26)) w13.heap.size 26 #[.int .i64 0, .int .i64 0, .slice none 0 0] := by with_reducible exact K13.out
             have R14 : Hid (Blk (w13.alloc (.cells #[.int .i64 5, .int .i64 4, .slice (some ⟨g13, 0, none⟩) 20 c13] 26)) w13.heap.size 26 #[.int .i64 5, .int .i64 4, .slice (some ⟨g13, 0, none⟩) 20 c13]) := Lib.hid (Blk.new _ _ _)
             have H14 : Hid (Below w12.heap.size w12 (w13.alloc (.cells #[.int .i64 5, .int .i64 4, .slice (some ⟨g13, 0, none⟩) 20 c13] 26))) := Lib.hid (H13.out.alloc Z13.out _)
             have RR14 : Hid (Rd (w13.alloc (.cells #[.int .i64 5, .int .i64 4, .slice (some ⟨g13, 0, none⟩) 20 c13] 26)) (w13.alloc (.cells #[.int .i64 5, .int .i64 4, .slice (some ⟨g13, 0, none⟩) 20 c13] 26)).heap.size 1 (some ⟨g13, 0, none⟩) 20 ((flips [d] ring1).map bv)) := Lib.hid (Rd.own (O13.out.alloc _))
             clear KK r0 r1 r2 f0 f1 f2
             generalize (w13.alloc (.cells #[.int .i64 5, .int .i64 4, .slice (some ⟨g13, 0, none⟩) 20 c13] 26)) = w14 at *
             generalize w13.heap.size = g14 at R14 ⊢)
          | (have KK : Blk w13 (w12.heap.size + 1) 26 #[.int .i64 0, .int .i64 0, .slice none 0 0] := by with_reducible exact K13.out
             have KS := set_three (x := .int .i64 5) (y := .int .i64 4) (z := .slice (some ⟨g13, 0, none⟩) 20 c13) KK
             have R14 : Hid (Blk (((w13.setCell ⟨w12.heap.size + 1, 0, none⟩ (.int .i64 5)).setCell ⟨w12.heap.size + 1, 1, none⟩ (.int .i64 4)).setCell ⟨w12.heap.size + 1, 2, none⟩ (.slice (some ⟨g13, 0, none⟩) 20 c13)) (w12.heap.size + 1) 26 #[.int .i64 5, .int .i64 4, .slice (some ⟨g13, 0, none⟩) 20 c13]) := Lib.hid KS.1
             have H14 : Hid (Below w12.heap.size w12 (((w13.setCell ⟨w12.heap.size + 1, 0, none⟩ (.int .i64 5)).setCell ⟨w12.heap.size + 1, 1, none⟩ (.int .i64 4)).setCell ⟨w12.heap.size + 1, 2, none⟩ (.slice (some ⟨g13, 0, none⟩) 20 c13))) := Lib.hid (H13.out.grown KS.2 Z13.out (fun j e => by injection e with e; have := Q13.out; omega))
             have O14 := own_grown' O13.out KS.2 (fun e => by have e' : some _ = some g13 := e; injection e' with e'; have := G13.out; omega)
             have RR14 := Lib.hid (Rd.own O14)
             clear KS KK O14 r0 r1 r2 f0 f1 f2
             generalize (((w13.setCell ⟨w12.heap.size + 1, 0, none⟩ (.int .i64 5)).setCell ⟨w12.heap.size + 1, 1, none⟩ (.int .i64 4)).setCell ⟨w12.heap.size + 1, 2, none⟩ (.slice (some ⟨g13, 0, none⟩) 20 c13)) = w14 at *
             generalize w12.heap.size + 1 = g14 at R14 ⊢)
          | (have KK : Blk w13 (w12.heap.size) 26 #[.int .i64 0, .int .i64 0, .slice none 0 0] := by with_reducible exact K13.out
             have KS := set_three (x := .int .i64 5) (y := .int .i64 4) (z := .slice (some ⟨g13, 0, none⟩) 20 c13) KK
             have R14 : Hid (Blk (((w13.setCell ⟨w12.heap.size, 0, none⟩ (.int .i64 5)).setCell ⟨w12.heap.size, 1, none⟩ (.int .i64 4)).setCell ⟨w12.heap.size, 2, none⟩ (.slice (some ⟨g13, 0, none⟩) 20 c13)) (w12.heap.size) 26 #[.int .i64 5, .int .i64 4, .slice (some ⟨g13, 0, none⟩) 20 c13]) := Lib.hid KS.1
             have H14 : Hid (Below w12.heap.size w12 (((w13.setCell ⟨w12.heap.size, 0, none⟩ (.int .i64 5)).setCell ⟨w12.heap.size, 1, none⟩ (.int .i64 4)).setCell ⟨w12.heap.size, 2, none⟩ (.slice (some ⟨g13, 0, none⟩) 20 c13))) := Lib.hid (H13.out.grown KS.2 Z13.out (fun j e => by injection e with e; have := Q13.out; omega))
             have O14 := own_grown' O13.out KS.2 (fun e => by have e' : some _ = some g13 := e; injection e' with e'; have := G13.out; omega)
             have RR14 := Lib.hid (Rd.own O14)
             clear KS KK O14 r0 r1 r2 f0 f1 f2
             generalize (((w13.setCell ⟨w12.heap.size, 0, none⟩ (.int .i64 5)).setCell ⟨w12.heap.size, 1, none⟩ (.int .i64 4)).setCell ⟨w12.heap.size, 2, none⟩ (.slice (some ⟨g13, 0, none⟩) 20 c13)) = w14 at *
             generalize w12.heap.size = g14 at R14 ⊢)
        all_goals
          clear K13 O13 G13 H13 Z13 Q13
          obtain ⟨b14, eb14⟩ : ∃ b, w14.heap.size = b := ⟨_, rfl⟩
          have S14 : Hid (Held ([.low w, .rd g8 1 (some ⟨g7, 0, none⟩) 20 (ring0.map bv), .blk g8 26 #[.int .i64 5, .int .i64 4, .slice (some ⟨g7, 0, none⟩) 20 c7], .rd b9 1 (some ⟨g8 + 1, 0, none⟩) 14 (ringD.map nv)] ++ [.rd g11 1 (some ⟨g10, 0, none⟩) 20 (ring1.map bv)] ++ [.blk g11 26 #[.int .i64 5, .int .i64 4, .slice (some ⟨g10, 0, none⟩) 20 c10]] ++ [.rd b14 1 (some ⟨g13, 0, none⟩) 20 ((flips [d] ring1).map bv)] ++ [.blk g14 26 #[.int .i64 5, .int .i64 4, .slice (some ⟨g13, 0, none⟩) 20 c13]]) w14) := by
            have t := ((S12.out.below H14.out).add (f := .rd w14.heap.size 1 (some ⟨g13, 0, none⟩) 20 ((flips [d] ring1).map bv)) ⟨Nat.le_refl _, RR14.out⟩).add (f := .blk g14 26 #[.int .i64 5, .int .i64 4, .slice (some ⟨g13, 0, none⟩) 20 c13]) R14.out
            rw [eb14] at t
            exact t
          clear S12 H14 RR14 R14 SP ZCH FCH P1 P2 P3 p0 p1 p2 p3 eb14
          have y0 := (S14.out.blk 2 rfl).cell 0
          have y1 := (S14.out.blk 2 rfl).cell 1
          have y2 := (S14.out.blk 2 rfl).cell 2
          go_wp2_with fail
          refine (ring_holes (some ⟨g7, 0, none⟩) c7 ring0 w14 rfl (S14.out.rd 1 rfl)).mono ?_
          rintro e w15 ⟨hh, rfl, hx, hb⟩
          have hh1 := ring_none hx
          subst hh1
          have S15 := Lib.hid (S14.out.below hb)
          clear hx hb S14 y0 y1 y2
          have y0 := (S15.out.blk 5 rfl).cell 0
          have y1 := (S15.out.blk 5 rfl).cell 1
          have y2 := (S15.out.blk 5 rfl).cell 2
          go_wp2_with fail
          refine (ring_flips (some ⟨g10, 0, none⟩) (some ⟨g8 + 1, 0, none⟩) c10 14 14 ring1 ringD w15 rfl rfl (by omega) ring_lt ring_inc (S15.out.rd 4 rfl) (S15.out.rd 3 rfl)).mono ?_
          rintro e w16 ⟨g16, c16, rfl, hr16, hb⟩
          rw [ring_back] at hr16
          clear y0 y1 y2
          obtain ⟨w17, ew17⟩ : ∃ x, x = w16.alloc (.cells #[.int .i64 5, .int .i64 4, .slice (some ⟨g16, 0, none⟩) 20 c16] 26) := ⟨_, rfl⟩
          have E17 := Lib.hid ew17
          obtain ⟨g17, eg17⟩ : ∃ g, w16.heap.size = g := ⟨_, rfl⟩
          have S17 : Hid (Held ([.low w, .rd g8 1 (some ⟨g7, 0, none⟩) 20 (ring0.map bv), .blk g8 26 #[.int .i64 5, .int .i64 4, .slice (some ⟨g7, 0, none⟩) 20 c7], .rd b9 1 (some ⟨g8 + 1, 0, none⟩) 14 (ringD.map nv)] ++ [.rd g11 1 (some ⟨g10, 0, none⟩) 20 (ring1.map bv)] ++ [.blk g11 26 #[.int .i64 5, .int .i64 4, .slice (some ⟨g10, 0, none⟩) 20 c10]] ++ [.rd b14 1 (some ⟨g13, 0, none⟩) 20 ((flips [d] ring1).map bv)] ++ [.blk g14 26 #[.int .i64 5, .int .i64 4, .slice (some ⟨g13, 0, none⟩) 20 c13]] ++ [.rd g17 1 (some ⟨g16, 0, none⟩) 20 (ring0.map bv)] ++ [.blk g17 26 #[.int .i64 5, .int .i64 4, .slice (some ⟨g16, 0, none⟩) 20 c16]]) w17) := by
            have G17 : Blk w17 w16.heap.size 26 #[.int .i64 5, .int .i64 4, .slice (some ⟨g16, 0, none⟩) 20 c16] := by rw [ew17]; exact Blk.new _ _ _
            have B17 : Below w16.heap.size w16 w17 := by rw [ew17]; exact (Below.refl _ _).alloc (Nat.le_refl _) _
            have t2 := (((S15.out.below hb).add (f := .rd w16.heap.size 1 (some ⟨g16, 0, none⟩) 20 (ring0.map bv)) ⟨Nat.le_refl _, hr16⟩).below B17).add (f := .blk w16.heap.size 26 #[.int .i64 5, .int .i64 4, .slice (some ⟨g16, 0, none⟩) 20 c16]) G17
            rw [eg17] at t2
            exact t2
          have y0 := (S17.out.blk 7 rfl).cell 0
          have y1 := (S17.out.blk 7 rfl).cell 1
          have y2 := (S17.out.blk 7 rfl).cell 2
          rw [ew17] at y0 y1 y2
          clear ew17 hr16 hb S15
          go_wp2_with fail
          rw [← E17.out]
          clear y0 y1 y2 E17 eg17
          refine (ring_holes (some ⟨g13, 0, none⟩) c13 (flips [d] ring1) w17 (by rw [flips_length]; rfl) (S17.out.rd 6 rfl)).mono ?_
          rintro e w18 ⟨hh, rfl, hx, hb⟩
          have S18 := Lib.hid (S17.out.below hb)
          clear hx hb S17
          go_wp2_with fail
          refine (all_new w18).mono ?_
          rintro e w19 ⟨g19, c19, s19, rfl, hr19, hb⟩
          obtain ⟨w20, ew20⟩ : ∃ x, x = w19.alloc (.cells #[.int .i64 4, .int .i64 4, .slice (some ⟨g19, 0, none⟩) 16 c19] 26) := ⟨_, rfl⟩
          have E20 := Lib.hid ew20
          obtain ⟨g20, eg20⟩ : ∃ g, w19.heap.size = g := ⟨_, rfl⟩
          have S20 : Hid (Held ([.low w, .rd g8 1 (some ⟨g7, 0, none⟩) 20 (ring0.map bv), .blk g8 26 #[.int .i64 5, .int .i64 4, .slice (some ⟨g7, 0, none⟩) 20 c7], .rd b9 1 (some ⟨g8 + 1, 0, none⟩) 14 (ringD.map nv)] ++ [.rd g11 1 (some ⟨g10, 0, none⟩) 20 (ring1.map bv)] ++ [.blk g11 26 #[.int .i64 5, .int .i64 4, .slice (some ⟨g10, 0, none⟩) 20 c10]] ++ [.rd b14 1 (some ⟨g13, 0, none⟩) 20 ((flips [d] ring1).map bv)] ++ [.blk g14 26 #[.int .i64 5, .int .i64 4, .slice (some ⟨g13, 0, none⟩) 20 c13]] ++ [.rd g17 1 (some ⟨g16, 0, none⟩) 20 (ring0.map bv)] ++ [.blk g17 26 #[.int .i64 5, .int .i64 4, .slice (some ⟨g16, 0, none⟩) 20 c16]] ++ [.rd g20 1 (some ⟨g19, 0, none⟩) 16 ((List.replicate 16 true).map bv)] ++ [.blk g20 26 #[.int .i64 4, .int .i64 4, .slice (some ⟨g19, 0, none⟩) 16 c19]]) w20) := by
            have G20 : Blk w20 w19.heap.size 26 #[.int .i64 4, .int .i64 4, .slice (some ⟨g19, 0, none⟩) 16 c19] := by rw [ew20]; exact Blk.new _ _ _
            have B20 : Below w19.heap.size w19 w20 := by rw [ew20]; exact (Below.refl _ _).alloc (Nat.le_refl _) _
            have t2 := (((S18.out.below hb).add (f := .rd w19.heap.size 1 (some ⟨g19, 0, none⟩) 16 ((List.replicate 16 true).map bv)) ⟨Nat.le_refl _, hr19⟩).below B20).add (f := .blk w19.heap.size 26 #[.int .i64 4, .int .i64 4, .slice (some ⟨g19, 0, none⟩) 16 c19]) G20
            rw [eg20] at t2
            exact t2
          have y0 := (S20.out.blk 11 rfl).cell 0
          have y1 := (S20.out.blk 11 rfl).cell 1
          have y2 := (S20.out.blk 11 rfl).cell 2
          rw [ew20] at y0 y1 y2
          clear ew20 hr19 hb S18
          go_wp2_with fail
          rw [← E20.out]
          clear y0 y1 y2 E20 eg20
          refine (all_count (some ⟨g19, 0, none⟩) c19 w20 (S20.out.rd 10 rfl)).mono ?_
          rintro e w21 ⟨rfl, hb⟩
          have S21 := Lib.hid (S20.out.below hb)
          clear hb S20
          have y0 := (S21.out.blk 9 rfl).cell 0
          have y1 := (S21.out.blk 9 rfl).cell 1
          have y2 := (S21.out.blk 9 rfl).cell 2
          have x0 := (S21.out.blk 2 rfl).cell 0
          have x1 := (S21.out.blk 2 rfl).cell 1
          have x2 := (S21.out.blk 2 rfl).cell 2
          go_wp2_with fail
          refine (ring_same (some ⟨g16, 0, none⟩) (some ⟨g7, 0, none⟩) c16 c7 w21 (S21.out.rd 8 rfl) (S21.out.rd 1 rfl)).mono ?_
          rintro e w22 ⟨rfl, hb⟩
          have S22 := Lib.hid (S21.out.below hb)
          clear hb S21 y0 y1 y2 x0 x1 x2
          go_wp2
          go_ret
          exact ⟨rfl, (S22.out.low 0 rfl).2⟩
end Go.Proofs.Ytejmpijihmmajaa
