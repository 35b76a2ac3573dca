/- Walk: one step in which what is too steep slides. Conditions: heights and steepness in quarters, shares in parts of 32. -/
import Derived.Test.YtoibgpmpngccjaaSlj
import Derived.Test.YtoibgpmpngccjaaSle
import Derived.Test.YtoibgpmpngccjaaHm
import Derived.Test.YtoibgpmpngccjaaHc
import Derived.Test.YtoibgpmpngccjaaIn
import Derived.StillTailTactics
namespace Go.Proofs.Ytoibgpmpngccjaa
open Go.RowKit
open Num Quick
attribute [local go_sem] run_store_fl

set_option maxRecDepth 100000 in
set_option maxHeartbeats 4000000 in
theorem TalusStep_ok (W H N st sh c : Nat) (A : Option Addr) (xs : List Nat) (ms : Nat → Int) (s b : Int) (w : World) (h1 : 1 ≤ W) (h2 : W ≤ 6) (h3 : 1 ≤ H) (h4 : H ≤ 6) (hN : W * H = N) (hl : xs.length = N) (hx : ∀ k, k < N → Gn 2 (ms k) (xs.getD k 0)) (hm : ∀ k, k < N → (ms k).natAbs ≤ 16)
    (hst : Gn 2 s st) (hs0 : 0 ≤ s) (hs1 : s ≤ 16) (hsh : Gn 5 b sh) (hb0 : 0 ≤ b) (hb1 : b ≤ 4) (hA : Rd w w.heap.size 1 A N (xs.map fv)) :
    Calls Try.prog 7 #[sheetV (W : Int) (H : Int) A N c, .float .f32 st, .float .f32 sh] w fun e w' => ∃ O sm g c', e = .returned (.tuple #[sheetV (W : Int) (H : Int) (some ⟨g, 0, none⟩) N c', .float .f32 sm, .bool true]) ∧ TalS N ms s b xs O sm (4 * N) ∧
      w'.ownsRow w.heap.size 30 1 (.slice (some ⟨g, 0, none⟩) N c') N (O.map fv) ∧ Below w.heap.size w w' := by
  have hN36 : N ≤ 36 := by have := Nat.mul_le_mul h2 h4; omega
  have hN1 : 1 ≤ N := by have := Nat.mul_le_mul h1 h3; omega
  have c18 : Gn 5 4 1040187392 := by
    refine ⟨?_, by decide, ?_⟩
    · show (1040187392 : Nat) % FloatKind.f32.format.signWeight < FloatKind.f32.format.infRung
      decide +kernel
    · unfold Num.fv val rv p2
      decide +kernel
  have q1 : (FloatKind.f32.format.order st 0 == some .gt || FloatKind.f32.format.order st 0 == some .eq) = true := by rw [hst.gt (Gn.zero 2), hst.eq' (Gn.zero 2)]; simp; omega
  have q2 : (FloatKind.f32.format.order sh 0 == some .gt || FloatKind.f32.format.order sh 0 == some .eq) = true := by rw [hsh.gt (Gn.zero 5), hsh.eq' (Gn.zero 5)]; simp; omega
  have q3 : (FloatKind.f32.format.order sh 1040187392 == some .lt || FloatKind.f32.format.order sh 1040187392 == some .eq) = true := by rw [hsh.lt' c18, hsh.eq' c18]; simp; omega
  obtain ⟨v, ev⟩ : ∃ v, v = (w.alloc (.cells #[.int .i64 (W : Int), .int .i64 (H : Int), .slice A N c] 26)).alloc (.cells #[.int .i64 0, .int .i64 0, .slice none 0 0] 26) := ⟨_, rfl⟩
  have K0 : Hid (Blk v w.heap.size 26 #[.int .i64 (W : Int), .int .i64 (H : Int), .slice A N c]) := by rw [ev]; exact (Blk.new w _ _).alloc _
  have R0 : Hid (Blk v (w.heap.size + 1) 26 #[.int .i64 0, .int .i64 0, .slice none 0 0]) := by rw [ev]; exact Blk.new2 _ _ _ _
  have V0 : Hid (Below w.heap.size w v) := by rw [ev]; exact ((Below.refl _ _).alloc (Nat.le_refl _) _).alloc (by simp) _
  have A0 : Rd v v.heap.size 1 A N (xs.map fv) := (hA.below V0.out).more V0.out.size
  have hf : xs.all finW = true := (tal_start (s := s) (b := b) hl hx hm).bound (by omega) |>.1
  have IS := ValidSheet_any (W : Int) (H : Int) A N c xs v (by unfold maxLen; omega) A0
  rw [okSheet_len h1 (by omega) h3 (by omega) (by rw [hN]; exact hl), hf] at IS
  have IS0 : Hid (Calls Try.prog 24 #[.agg #[.int .i64 (W : Int), .int .i64 (H : Int), .slice A N c]] v fun e w' => e = .returned (.bool true) ∧ Below v.heap.size v w') := IS
  have FS := Lib.hid (fun w => isFinite_num hst.fin w)
  have ST : Hid (∀ O sm t, TalS N ms s b xs O sm t → ∀ i k, i < N → k < N → k ≠ i → t ≤ 1000 → ∃ w1 w2, floatBits .sub .f32 (xs.getD i 0) (xs.getD k 0) = some w1 ∧ floatBits .sub .f32 w1 st = some w2 ∧
      (((FloatKind.f32.format.order w2 0 == some .gt) = false ∧ TalS N ms s b xs O sm (t + 1)) ∨
       ((FloatKind.f32.format.order w2 0 == some .gt) = true ∧ ∃ m p q r, floatBits .mul .f32 sh w2 = some m ∧ floatBits .sub .f32 (O.getD i 0) m = some p ∧ floatBits .add .f32 ((O.set i p).getD k 0) m = some q ∧ floatBits .add .f32 sm m = some r ∧ TalS N ms s b xs ((O.set i p).set k q) r (t + 1)))) :=
    fun O sm t hT i k hi hk hne ht => tal_step hT hx hm hst hs0 hs1 hsh hb0 hb1 hi hk hne ht
  have T0 : Hid (TalS N ms s b xs xs 0 0) := tal_start hl hx hm
  have EV := Lib.hid ev
  have b0 : v.cell? ⟨w.heap.size, 0, none⟩ = some (.int .i64 (W : Int)) := K0.out.cell 0
  have b1 : v.cell? ⟨w.heap.size, 1, none⟩ = some (.int .i64 (H : Int)) := K0.out.cell 1
  have b2 : v.cell? ⟨w.heap.size, 2, none⟩ = some (.slice A N c) := K0.out.cell 2
  have hg1 : ¬ w.heap.size = w.heap.size + 1 := by omega
  have AV := Lib.hid A0
  have HL := Lib.hid hl
  have HN := Lib.hid hN
  have HNE := Lib.hid (fun i k (h : k ∈ nbs W H i) => nbs_ne (H := H) h1 h)
  rw [ev] at b0 b1 b2
  unfold sheetV
  clear ev IS A0 hA hl hx hm hst hs0 hs1 hsh hb0 hb1 c18 hf hN
  go_enter Try.func7, Try.ntmps7
  go_wp2_with fail
  rw [← EV.out]
  refine IS0.out.mono ?_
  rintro e w1 ⟨rfl, hb1⟩
  have K1 := Lib.hid (K0.out.below hb1 K0.out.lt)
  have R1 := Lib.hid (R0.out.below hb1 R0.out.lt)
  have V1 := Lib.hid (V0.out.trans (hb1.mono V0.out.size))
  have A1 := Lib.hid ((AV.out.below hb1).more hb1.size)
  have d0 : w1.cell? ⟨w.heap.size, 0, none⟩ = some (.int .i64 (W : Int)) := K1.out.cell 0
  have d1 : w1.cell? ⟨w.heap.size, 1, none⟩ = some (.int .i64 (H : Int)) := K1.out.cell 1
  have d2 : w1.cell? ⟨w.heap.size, 2, none⟩ = some (.slice A N c) := K1.out.cell 2
  clear hb1 IS0 V0 AV EV b0 b1 b2 K0 R0
  go_wp2_with fail
  refine (FS.out _).mono ?_
  rintro e w2 ⟨rfl, rfl⟩
  have OW := Lib.hid (copySheet_any (W : Int) (H : Int) N A c xs w2 hN1 (by omega) HL.out A1.out)
  unfold SheetOut sheetV at OW
  go_wp2_with fail
  refine OW.out.mono ?_
  rintro e u2 ⟨A2, c2, rfl, ho, hb⟩
  obtain ⟨gr, cap, hv, _, hgr⟩ := ho.form (by omega)
  obtain ⟨rfl, rfl⟩ : A2 = some ⟨gr, 0, none⟩ ∧ c2 = cap := by injection hv with q1 _ q3; exact ⟨q1, q3⟩
  obtain ⟨w3, ew3⟩ : ∃ w3, w3 = u2.alloc (.cells #[.int .i64 (W : Int), .int .i64 (H : Int), .slice (some ⟨gr, 0, none⟩) N c2] 26) := ⟨_, rfl⟩
  have K3 : Hid (Blk w3 w.heap.size 26 #[.int .i64 (W : Int), .int .i64 (H : Int), .slice A N c]) := by rw [ew3]; exact (K1.out.below hb K1.out.lt).alloc _
  have P3 : Hid (Blk w3 u2.heap.size 26 #[.int .i64 (W : Int), .int .i64 (H : Int), .slice (some ⟨gr, 0, none⟩) N c2]) := by rw [ew3]; exact Blk.new _ _ _
  have R3 : Hid (Blk w3 (w.heap.size + 1) 26 #[.int .i64 0, .int .i64 0, .slice none 0 0]) := by rw [ew3]; exact (R1.out.below hb R1.out.lt).alloc _
  have O3 : Hid (w3.ownsRow w2.heap.size 30 1 (.slice (some ⟨gr, 0, none⟩) N c2) N (xs.map fv)) := by rw [ew3]; exact ho.alloc _
  have V3 : Hid (Below w.heap.size w w3) := by rw [ew3]; exact (V1.out.trans (hb.mono V1.out.size)).alloc (Nat.le_trans V1.out.size hb.size) _
  have A3 : Hid (Rd w3 w2.heap.size 1 A N (xs.map fv)) := by rw [ew3]; exact A1.out.below (hb.alloc hb.size _)
  have hgb : w2.heap.size ≤ gr := (O3.out.lt gr (by simp [Value.ownBlock])).1
  have hgl2 : w.heap.size < u2.heap.size := (K1.out.below hb K1.out.lt).lt
  have hbase : w.heap.size ≤ w2.heap.size := V1.out.size
  have hs3 : w2.heap.size ≤ w3.heap.size := by rw [ew3]; simp; have := hb.size; omega
  have E3 := Lib.hid ew3
  obtain ⟨z, ez⟩ : ∃ z, u2.heap.size = z := ⟨_, rfl⟩
  have d2' : (u2.alloc (.cells #[.int .i64 (W : Int), .int .i64 (H : Int), .slice (some ⟨gr, 0, none⟩) N c2] 26)).cell? ⟨w.heap.size, 2, none⟩ = some (.slice A N c) := by rw [← ew3]; exact K3.out.cell 2
  have hcN : N ≤ c2 := by
    rcases O3.out.2 with ⟨h', _⟩ | ⟨g', cap, cur, hv, _⟩
    · simp at h'
    · rename_i hh
      injection hv with _ _ h3
      omega
  clear ho hb ew3 hv K1 R1 V1 OW d0 d1 d2 A1 FS
  go_wp2
  rw [← E3.out]
  rw [ez] at P3 hgl2
  clear d2' E3 ez
  have W3 : Hid (w3.grownBy w3 (some gr)) := World.grownBy.refl _ _
  go_loopw [10, 45] (fun sx si wr => ∃ (i sm : Nat) (O : List Nat), si = .int .i64 (i : Int) ∧ sx = .float .f32 sm ∧ i ≤ N ∧ Hid (TalS N ms s b xs O sm (4 * i)) ∧ Hid (wr.ownsRow w2.heap.size 30 1 (.slice (some ⟨gr, 0, none⟩) N c2) N (O.map fv)) ∧ Hid (w3.grownBy wr (some gr))) (fun _ si _ => N - (intOf si).toNat)
  case atStart => exact ⟨0, 0, xs, rfl, rfl, Nat.zero_le _, T0, O3, W3⟩
  case round =>
    clear T0 W3
    obtain ⟨i, sm, O, rfl, rfl, hi, T, OO, G⟩ := hrel
    by_cases hin : i < N
    · have KR := Lib.hid (K3.out.grown G.out (own_blk_ne O3.out K3.out (by decide)))
      have AR := Lib.hid (A3.out.grown G.out hgb hs3)
      obtain ⟨ba, offa, rfl, hba, hca⟩ := AR.out.2 (by omega)
      have HCA := Lib.hid hca
      have k0 : wr.cell? ⟨w.heap.size, 0, none⟩ = some (.int .i64 (W : Int)) := KR.out.cell 0
      have k1 : wr.cell? ⟨w.heap.size, 1, none⟩ = some (.int .i64 (H : Int)) := KR.out.cell 1
      have k2 : wr.cell? ⟨w.heap.size, 2, none⟩ = some (.slice (some ⟨ba, offa, none⟩) N c) := KR.out.cell 2
      obtain ⟨xi, exi⟩ : ∃ x, xs.getD i 0 = x := ⟨_, rfl⟩
      have e0 : wr.cell? ⟨ba, offa + i, none⟩ = some (.float .f32 xi) := by rw [← exi]; exact hca _ _ (fv_at HL.out hin)
      have SD := Lib.hid (sides_any W H i wr h1 (by omega) h3 (by omega) (by rw [HN.out]; exact hin) N c (some ⟨ba, offa, none⟩))
      have hii : (i : Int) < (N : Int) := by omega
      have EXI := Lib.hid exi
      have hzr : w2.heap.size ≤ wr.heap.size := Nat.le_trans hs3 G.out.size
      have hgrw : gr < wr.heap.size := (OO.out.lt gr (by simp [Value.ownBlock])).2
      clear hca exi
      go_wp2_with fail
      refine SD.out.mono ?_
      rintro e w4 ⟨A4, n4, c4, rfl, ho4, hb4⟩
      have hkl : (nbs W H i).length = n4 := by have := ho4.1; simpa using this
      have hn4 : n4 ≤ 4 := by
        rw [← hkl]
        unfold nbs nb1 nb2 nb3 nb4
        simp only [List.length_append]
        split <;> split <;> split <;> split <;> simp
      have NB := Lib.hid (fun j k (h : (nbs W H i)[j]? = some k) => (nbs_lt (by rw [HN.out]; exact hin) (List.mem_of_getElem? h) : k < W * H))
      have NE := Lib.hid (fun j k (h : (nbs W H i)[j]? = some k) => HNE.out i k (List.mem_of_getElem? h))
      rw [HN.out] at NB
      obtain ⟨ks, eks⟩ : ∃ ks, nbs W H i = ks := ⟨_, rfl⟩
      rw [eks] at hkl ho4 NB NE
      have HKL := Lib.hid hkl
      have L4 := Lib.hid ho4
      have OO4 := Lib.hid (own_below OO.out hb4)
      have G4 := Lib.hid (grown_trans' G.out (grown_of_below hb4 (some gr)))
      obtain ⟨bz, ebz⟩ : ∃ bz, wr.heap.size = bz := ⟨_, rfl⟩
      rw [ebz] at L4
      clear hkl eks ho4 hb4 SD KR k0 k1 k2 e0 OO G AR hzr ebz hgrw
      go_wp2
      go_loopw [10, 54] (fun sx sj wr => ∃ (j sm : Nat) (O : List Nat), sj = .int .i64 (j : Int) ∧ sx = .float .f32 sm ∧ j ≤ n4 ∧ Hid (TalS N ms s b xs O sm (4 * i + j)) ∧ Hid (wr.ownsRow w2.heap.size 30 1 (.slice (some ⟨gr, 0, none⟩) N c2) N (O.map fv)) ∧ Hid (w3.grownBy wr (some gr)) ∧ Hid (wr.ownsRow bz 2 1 (.slice A4 n4 c4) n4 (ks.map nv))) (fun _ sj _ => n4 - (intOf sj).toNat)
      case atStart => exact ⟨0, sm, O, rfl, rfl, Nat.zero_le _, T, OO4, G4, L4⟩
      case round =>
        clear T OO4 G4 L4
        obtain ⟨j, sm2, O2, rfl, rfl, hj, T2, OO2, G2, L2⟩ := hrel
        by_cases hjn : j < n4
        · obtain ⟨b4, off4, rfl, hbb, hc4⟩ := (Rd.own L2.out).2 (by omega)
          obtain ⟨k, hk⟩ : ∃ k, ks[j]? = some k := ⟨_, List.getElem?_eq_getElem (by rw [HKL.out]; exact hjn)⟩
          have e1 : wr.cell? ⟨b4, off4 + j, none⟩ = some (.int .i64 (k : Int)) := hc4 _ _ (by rw [List.getElem?_map, hk]; rfl)
          have hkN : k < N := NB.out j k hk
          have hne : k ≠ i := NE.out j k hk
          have k2 : wr.cell? ⟨w.heap.size, 2, none⟩ = some (.slice (some ⟨ba, offa, none⟩) N c) := (K3.out.grown G2.out (own_blk_ne O3.out K3.out (by decide))).cell 2
          have PQ := Lib.hid (P3.out.grown G2.out (own_blk_ne O3.out P3.out (by decide)))
          obtain ⟨xk, exk⟩ : ∃ x, xs.getD k 0 = x := ⟨_, rfl⟩
          have e2 : wr.cell? ⟨ba, offa + k, none⟩ = some (.float .f32 xk) := by
            obtain ⟨ba', offa', eA, _, hca⟩ := (A3.out.grown G2.out hgb hs3).2 (by omega)
            injection eA with eA
            injection eA with e1 e2
            subst e1 e2
            rw [← exk]
            exact hca _ _ (fv_at HL.out hkN)
          obtain ⟨y1, y2, f1, f2, hcase⟩ := ST.out O2 sm2 (4 * i + j) T2.out i k hin hkN hne (by omega)
          rw [EXI.out, exk] at f1
          have r1 := r32 f1
          have r2 := r32 f2
          have hji : (j : Int) < (n4 : Int) := by omega
          have hki : (k : Int) < (N : Int) := by omega
          have hiN : (i : Int) < (N : Int) := by omega
          have hne' := Lib.hid hne
          clear hc4 hk exk f1 f2 hne
          rcases hcase with ⟨hg, T3⟩ | ⟨hg, m, p, q, r, f3, f4, f5, f6, T3⟩
          · have T3 := Lib.hid T3
            go_wp2
            go_roundw
            case rel => exact ⟨j + 1, sm2, O2, by go_num, rfl, by omega, T3, OO2, G2, L2⟩
            case measure => simp [intOf]; omega
          · have r3 := r32 f3
            have r4 := r32 f4
            have r5 := r32 f5
            have r6 := r32 f6
            have T3 := Lib.hid T3
            have hlO : O2.length = N := T2.out.len
            have g2 : wr.cell? ⟨z, 2, none⟩ = some (.slice (some ⟨gr, 0, none⟩) N c2) := PQ.out.cell 2
            have g3 : wr.cell? ⟨gr, i, none⟩ = some (.float .f32 (O2.getD i 0)) := own_nat OO2.out (by rw [hlO]; exact hin) hlO
            have fz : wr.frozen? ⟨gr, i, none⟩ = false := OO2.out.frozenAt _
            obtain ⟨oi, eoi⟩ : ∃ x, O2.getD i 0 = x := ⟨_, rfl⟩
            rw [eoi] at g3 r4
            obtain ⟨ok, eok⟩ : ∃ x, (O2.set i p).getD k 0 = x := ⟨_, rfl⟩
            rw [eok] at r5
            have HLO := Lib.hid hlO
            clear f3 f4 f5 f6 eoi hlO
            have EOK := Lib.hid eok
            clear eok
            go_wp2
            go_still_tail 11, (by kernel_rfl)
            change wpList _ _ _ _ _ wr.drew
            have OO5 : Hid (wr.drew.ownsRow w2.heap.size 30 1 (.slice (some ⟨gr, 0, none⟩) N c2) N (O2.map fv)) := OO2.out
            have G5 : Hid (w3.grownBy wr.drew (some gr)) := grown_drew G2.out
            have L5 : Hid (wr.drew.ownsRow bz 2 1 (.slice (some ⟨b4, off4, none⟩) n4 c4) n4 (ks.map nv)) := L2.out
            have P5 : Hid (Blk wr.drew z 26 #[.int .i64 (W : Int), .int .i64 (H : Int), .slice (some ⟨gr, 0, none⟩) N c2]) := PQ.out.drewN 1
            clear OO2 G2 L2 PQ e1 k2 e2 g2 g3 fz
            generalize wr.drew = w5 at *
            have fz : w5.frozen? ⟨gr, i, none⟩ = false := OO5.out.frozenAt _
            have g3 : w5.cell? ⟨gr, i, none⟩ = some (.float .f32 (O2.getD i 0)) := own_nat OO5.out (by rw [HLO.out]; exact hin) HLO.out
            obtain ⟨ho6, hg6⟩ := OO5.out.stored i (.float .f32 p)
            rw [set_map] at ho6
            obtain ⟨w6, ew6⟩ : ∃ w6, w6 = w5.setCell ⟨gr, i, none⟩ (.float .f32 p) := ⟨_, rfl⟩
            rw [← ew6] at ho6 hg6
            have OO6 := Lib.hid ho6
            have G6 := Lib.hid (grown_trans' G5.out hg6)
            have L6 := Lib.hid (own_grown' L5.out hg6 (fun e => by have := own_own_ne OO5.out L5.out (by decide); rcases this with h | h <;> simp [Value.ownBlock] at h e; omega))
            have P6 := Lib.hid (P5.out.grown hg6 (own_blk_ne OO5.out P5.out (by decide)))
            have EW6 := Lib.hid ew6
            have eoi' : ∃ x, O2.getD i 0 = x := ⟨_, rfl⟩
            obtain ⟨oi2, eoi2⟩ := eoi'
            rw [eoi2] at g3
            clear ho6 hg6 ew6 OO5 G5 L5 P5 eoi2
            go_wp2
            rw [← EW6.out]
            clear EW6 g3 fz
            have hl6 : (O2.set i p).length = N := by rw [List.length_set]; exact HLO.out
            have g2 : w6.cell? ⟨z, 2, none⟩ = some (.slice (some ⟨gr, 0, none⟩) N c2) := P6.out.cell 2
            have g3 : w6.cell? ⟨gr, k, none⟩ = some (.float .f32 ((O2.set i p).getD k 0)) := own_nat OO6.out (by rw [hl6]; exact hkN) hl6
            rw [EOK.out] at g3
            have HL6 := Lib.hid hl6
            clear hl6
            go_still_tail 11, (by kernel_rfl)
            change wpList _ _ _ _ _ w6.drew
            have OO7 : Hid (w6.drew.ownsRow w2.heap.size 30 1 (.slice (some ⟨gr, 0, none⟩) N c2) N ((O2.set i p).map fv)) := OO6.out
            have G7 : Hid (w3.grownBy w6.drew (some gr)) := grown_drew G6.out
            have L7 : Hid (w6.drew.ownsRow bz 2 1 (.slice (some ⟨b4, off4, none⟩) n4 c4) n4 (ks.map nv)) := L6.out
            clear OO6 G6 L6 P6 g2 g3
            generalize w6.drew = w7 at *
            have fz : w7.frozen? ⟨gr, k, none⟩ = false := OO7.out.frozenAt _
            have g3 : w7.cell? ⟨gr, k, none⟩ = some (.float .f32 ((O2.set i p).getD k 0)) := own_nat OO7.out (by rw [HL6.out]; exact hkN) HL6.out
            rw [EOK.out] at g3
            obtain ⟨ho8, hg8⟩ := OO7.out.stored k (.float .f32 q)
            rw [set_map] at ho8
            obtain ⟨w8, ew8⟩ : ∃ w8, w8 = w7.setCell ⟨gr, k, none⟩ (.float .f32 q) := ⟨_, rfl⟩
            rw [← ew8] at ho8 hg8
            have OO8 := Lib.hid ho8
            have G8 := Lib.hid (grown_trans' G7.out hg8)
            have L8 := Lib.hid (own_grown' L7.out hg8 (fun e => by have := own_own_ne OO7.out L7.out (by decide); rcases this with h | h <;> simp [Value.ownBlock] at h e; omega))
            have EW8 := Lib.hid ew8
            clear ho8 hg8 ew8 OO7 G7 L7
            go_wp2
            rw [← EW8.out]
            clear EW8 g3 fz
            go_roundw
            case rel => exact ⟨j + 1, r, (O2.set i p).set k q, by go_num, rfl, by omega, T3, OO8, G8, L8⟩
            case measure => simp [intOf]; omega
        · obtain rfl : j = n4 := by omega
          have T3 := Lib.hid (T2.out.more (show 4 * i + j ≤ 4 * (i + 1) by omega))
          clear T2
          go_wp2
          go_roundw
          case rel => exact ⟨i + 1, sm2, O2, by go_num, rfl, by omega, T3, OO2, G2⟩
          case measure => simp [intOf]; omega
    · obtain rfl : i = N := by omega
      have TB := T.out.bound (by omega)
      have hlO := T.out.len
      have hfO := TB.1
      have IS := ValidSheet_any (W : Int) (H : Int) (some ⟨gr, 0, none⟩) i c2 O wr (by unfold maxLen; omega) (Rd.own OO.out)
      rw [okSheet_len h1 (by omega) h3 (by omega) (by rw [hlO]; exact HN.out.symm), hfO] at IS
      have IS4 : Hid (Calls Try.prog 24 #[.agg #[.int .i64 (W : Int), .int .i64 (H : Int), .slice (some ⟨gr, 0, none⟩) i c2]] wr fun e w' => e = .returned (.bool true) ∧ Below wr.heap.size wr w') := IS
      have FS := Lib.hid (fun w => isFinite_num TB.2.1 w)
      have PQ := Lib.hid (P3.out.grown G.out (own_blk_ne O3.out P3.out (by decide)))
      have R4 := Lib.hid (R3.out.grown G.out (own_blk_ne O3.out R3.out (by decide)))
      have V4 := Lib.hid (V3.out.grown G.out V3.out.size (fun k e => by have := (O3.out.lt k (by simpa [Value.ownBlock] using e)).1; omega))
      have f0 : wr.cell? ⟨z, 0, none⟩ = some (.int .i64 (W : Int)) := PQ.out.cell 0
      have f1 : wr.cell? ⟨z, 1, none⟩ = some (.int .i64 (H : Int)) := PQ.out.cell 1
      have f2 : wr.cell? ⟨z, 2, none⟩ = some (.slice (some ⟨gr, 0, none⟩) i c2) := PQ.out.cell 2
      clear IS TB hlO hfO K3 P3 R3 O3 V3 A3 G
      go_wp2_with fail
      refine IS4.out.mono ?_
      rintro e w5 ⟨rfl, hb5⟩
      have R5 := Lib.hid (R4.out.below hb5 R4.out.lt)
      have P5 := Lib.hid (PQ.out.below hb5 PQ.out.lt)
      have V5 := Lib.hid (V4.out.trans (hb5.mono V4.out.size))
      have O5 := Lib.hid (own_below OO.out hb5)
      clear hb5 IS4 R4 PQ V4 OO f0 f1 f2
      go_wp2_with fail
      refine (FS.out _).mono ?_
      rintro e w6 ⟨rfl, rfl⟩
      go_wp2_with (first
        | (refine wpList_load_blk rfl _ _ rfl z 0 rfl 26 _ P5.out [.int .i64 (W : Int), .int .i64 (H : Int), .slice (some ⟨gr, 0, none⟩) i c2] rfl _ Try.underlying26 rfl (by kernel_rfl) ?_)
        | (refine wpList_store_blk rfl _ _ _ rfl (w.heap.size + 1) 0 rfl _ rfl [.int .i64 (W : Int), .int .i64 (H : Int), .slice (some ⟨gr, 0, none⟩) i c2] rfl 26 _ #[.int .i64 (W : Int), .int .i64 (H : Int), .slice (some ⟨gr, 0, none⟩) i c2] R5.out (by kernel_rfl) (by simp) (by simp [Value.oneCell']) rfl ?_; intro w9 k9 g9)
        | fail)
      refine bodyPost_ret (results_row3 rfl _ w9 (w.heap.size + 1) 26 _ _ rfl k9 Try.underlying26 rfl (by kernel_rfl) _ _ rfl rfl) rfl ?_
      exact ⟨O, sm, gr, c2, rfl, T.out, own_base (own_grown' O5.out g9 (own_blk_ne O5.out R5.out (by decide))) hbase, V5.out.grown g9 V5.out.size (fun j e => by injection e with e; omega)⟩
end Go.Proofs.Ytoibgpmpngccjaa
