/- Walks: edges that grow, by the program. Conditions: the field is valid. -/
import Derived.Test.YtknonmfffcjonaaTc
namespace Go.Proofs.Ytknonmfffcjonaa
open Go.RowKit

set_option maxRecDepth 100000 in
set_option maxHeartbeats 4000000 in
theorem implGrow_ok (W H N count seed : Nat) (A : Option Addr) (c : Nat) (cs : List Bool) (w : World) (hW : 1 ≤ W) (hW' : W ≤ 16) (hH : 1 ≤ H) (hH' : H ≤ 16) (hl : cs.length = N) (hP : W * H = N) (h : validB W H N = true)
    (hk : count ≤ 512) (hs : seed ≤ 2147483647) (hA : Rd w w.heap.size 1 A N (cs.map bv)) :
    Calls Try.prog 22 #[fieldV W H A N c, .int .i64 (count : Int), .int .i64 (seed : Int)] w (GeRes (grows W H N count cs seed) W H w) := by
  obtain ⟨v, ev⟩ : ∃ v, v = (w.alloc (.cells #[.int .i64 W, .int .i64 H, .slice A N c] 26)).alloc (.cells #[.int .i64 0, .int .i64 0, .slice none 0 0] 26) := ⟨_, rfl⟩
  have B0 : Hid (Below w.heap.size w v) := by rw [ev]; exact ((Below.refl _ _).alloc (Nat.le_refl _) _).alloc (by simp) _
  have bI : Hid (Blk v w.heap.size 26 #[.int .i64 W, .int .i64 H, .slice A N c]) := by rw [ev]; exact (Blk.new w _ _).alloc _
  have bR : Hid (Blk v (w.heap.size + 1) 26 #[.int .i64 0, .int .i64 0, .slice none 0 0]) := by rw [ev]; exact Blk.new2 _ _ _ _
  have hsz0 := B0.out.size
  have hlt0 : w.heap.size + 1 < v.heap.size := bR.out.lt
  have EV := Lib.hid ev
  have HH := Lib.hid h
  have HL := Lib.hid hl
  have HP := Lib.hid hP
  have hN256 : N ≤ 256 := by have := Nat.mul_le_mul hW' hH'; omega
  have hN1 : 1 ≤ N := by rw [← hP]; exact Nat.mul_pos hW hH
  have HT : Hid (inB (count : Int) 0 512 = true) := by unfold Hid inB; simp; omega
  have HR : Hid (inB (seed : Int) 0 2147483647 = true) := by unfold Hid inB; simp; omega
  clear ev h hl hP
  unfold fieldV
  go_enter Try.func22, Try.ntmps22
  go_wp2_with fail
  rw [← EV.out]
  refine (ValidField_any W H A N c _).mono ?_
  rintro e w1 ⟨rfl, hb1⟩
  rw [HH.out]
  have HB1 := Lib.hid (B0.out.trans (hb1.mono hsz0))
  have R1 := Lib.hid (bR.out.below hb1 bR.out.lt)
  have I1 := Lib.hid (bI.out.below hb1 bI.out.lt)
  have hsz1 := hb1.size
  clear hb1
  go_wp2_with fail
  refine (isWalk_any _ _).mono ?_
  rintro e w5 ⟨rfl, h5⟩
  obtain rfl := h5.symm
  rw [HT.out]
  go_wp2_with fail
  refine (isSeed_any _ _).mono ?_
  rintro e w5 ⟨rfl, h5⟩
  obtain rfl := h5.symm
  rw [HR.out]
  go_wp2_with (first
    | (refine wpList_load_blk rfl _ _ rfl w.heap.size 0 rfl 26 _ I1.out [.int .i64 W, .int .i64 H, .slice A N c] rfl _ Try.underlying26 rfl (by kernel_rfl) ?_)
    | fail)
  refine (copyField_any W H N A c cs _ hN1 hN256 HL.out ((hA.below HB1.out).more (by omega))).mono ?_
  rintro e w2 ⟨A2, c2, rfl, ho2, hb2⟩
  have hsz2 := hb2.size
  have HB2 := Lib.hid (HB1.out.trans (hb2.mono (by omega)))
  have R2 := Lib.hid (R1.out.below hb2 R1.out.lt)
  have O2 := Lib.hid ho2
  clear ho2 hb2
  unfold fieldV
  go_wp2_with (first
    | (refine wpList_store_blk rfl _ _ _ rfl w2.heap.size 0 rfl _ rfl [.int .i64 W, .int .i64 H, .slice A2 N c2] rfl 26 #[.int .i64 0, .int .i64 0, .slice none 0 0] #[.int .i64 W, .int .i64 H, .slice A2 N c2] (Blk.new _ _ _) (by kernel_rfl) (by simp) (by simp [Value.oneCell']) rfl ?_; intro w3 X3 g3)
    | fail)
  have hsz3 := g3.size
  simp only [World.size_alloc] at hsz3
  have HB3 := Lib.hid (below_boxed HB2.out (by omega) g3)
  have R3 := Lib.hid (blk_boxed R2.out g3)
  have O3 := Lib.hid (own_base (base' := w.heap.size) (own_boxed O2.out g3) (by omega))
  have HX3 := Lib.hid X3
  obtain ⟨ga, ca, hva, _, hga⟩ := O3.out.form (by omega)
  obtain ⟨rfl, rfl⟩ : A2 = some ⟨ga, 0, none⟩ ∧ c2 = ca := by injection hva with h1 _ h3; exact ⟨h1, h3⟩
  clear X3 g3 hva
  obtain ⟨T, hT⟩ : ∃ T, grows W H N count cs seed = T := ⟨_, rfl⟩
  have HT0 := Lib.hid hT
  have HT1 := Lib.hid hT
  clear hT
  go_wp2
  go_loopw [2, 32] (fun ss sj wr => ∃ (j k s : Nat) (cs' : List Bool), sj = .int .i64 j ∧ ss = .int .i64 s ∧ j + k = count ∧ k ≤ 512 ∧ s ≤ 2147483647 ∧ Hid (cs'.length = N) ∧
      wr.ownsRow w.heap.size 4 1 (.slice (some ⟨ga, 0, none⟩) N c2) N (cs'.map bv) ∧ Blk wr w2.heap.size 26 #[.int .i64 W, .int .i64 H, .slice (some ⟨ga, 0, none⟩) N c2] ∧ Blk wr (w.heap.size + 1) 26 #[.int .i64 0, .int .i64 0, .slice none 0 0] ∧ Below w.heap.size w wr ∧ w3.heap.size ≤ wr.heap.size ∧ Hid (grows W H N k cs' s = T)) (fun _ sj _ => count - (intOf sj).toNat)
  case atStart => exact ⟨0, count, seed, cs, rfl, rfl, by omega, hk, hs, HL, O3.out, HX3.out, R3.out, HB3.out, Nat.le_refl _, HT0⟩
  case round =>
    clear O3 HX3 R3 HB3 HT0
    obtain ⟨j, k, s, cs', rfl, rfl, hjk, hnk, hsl, HL', ho, hx, hr, hb, hz, HS⟩ := hrel
    obtain ⟨wo, hwo⟩ : ∃ x, x = wr := ⟨_, rfl⟩
    subst hwo
    have O := Lib.hid ho
    have X := Lib.hid hx
    have R := Lib.hid hr
    have HB := Lib.hid hb
    clear ho hx hr hb
    by_cases hk0 : k = 0
    · have hjc : j = count := by omega
      obtain rfl := hk0
      obtain rfl := hjc.symm
      have hT : T = some (cs', s) := by rw [← HS.out]; rfl
      have HTT := Lib.hid hT
      have hl' := HL'.out
      clear hT
      go_wp2_with (first
        | (refine wpList_load_blk rfl _ _ rfl w2.heap.size 0 rfl 26 _ X.out [.int .i64 W, .int .i64 H, .slice (some ⟨ga, 0, none⟩) N c2] rfl _ Try.underlying26 rfl (by kernel_rfl) ?_)
        | (refine wpList_store_blk rfl _ _ _ rfl (w.heap.size + 1) 0 rfl _ rfl [.int .i64 W, .int .i64 H, .slice (some ⟨ga, 0, none⟩) N c2] rfl 26 _ #[.int .i64 W, .int .i64 H, .slice (some ⟨ga, 0, none⟩) N c2] R.out (by kernel_rfl) (by simp) (by simp [Value.oneCell']) rfl ?_; intro w6 R6 g6)
        | fail)
      refine bodyPost_ret (results_row3 rfl _ w6 (w.heap.size + 1) 26 _ _ rfl R6 Try.underlying26 rfl (by kernel_rfl) _ _ rfl rfl) rfl ?_
      rw [HT1.out, HTT.out]
      unfold GeRes
      refine ⟨some ⟨ga, 0, none⟩, c2, ?_, ?_, HB.out.grown g6 (by omega) (fun k e => by injection e with e; omega)⟩
      · rw [hl']; rfl
      · rw [hl']; exact own_grown' O.out g6 (own_blk_ne O.out R.out (by decide))
    · obtain ⟨k', hk'⟩ : ∃ k', k = k' + 1 := ⟨k - 1, by omega⟩
      have HK' := Lib.hid hk'
      have hkp : j < count := by omega
      have hk5 : k' ≤ 512 := by omega
      have hjk' : j + 1 + k' = count := by omega
      clear hk'
      have d2 : wo.cell? ⟨w2.heap.size, 2, none⟩ = some (.slice (some ⟨ga, 0, none⟩) N c2) := X.out.cell 2
      have b1 : Hid (Blk (wo.alloc (.cells #[] 2)) wo.heap.size 2 #[]) := Blk.new _ _ _
      have e2 : (wo.alloc (.cells #[] 2)).cell? ⟨w2.heap.size, 2, none⟩ = some (.slice (some ⟨ga, 0, none⟩) N c2) := (X.out.alloc _).cell 2
      have hszo := HB.out.size
      go_wp2
      go_loopw [10, 38] (fun sl si wr => ∃ (i : Nat) (Al : Option Addr) (cl : Nat), i ≤ N ∧ si = .int .i64 (i : Int) ∧ sl = .slice Al (edgeTo cs' W H i).length cl ∧
          wr.ownsRow w.heap.size 2 1 (.slice Al (edgeTo cs' W H i).length cl) (edgeTo cs' W H i).length ((edgeTo cs' W H i).map nv) ∧
          wr.ownsRow w.heap.size 4 1 (.slice (some ⟨ga, 0, none⟩) N c2) N (cs'.map bv) ∧ Blk wr w2.heap.size 26 #[.int .i64 W, .int .i64 H, .slice (some ⟨ga, 0, none⟩) N c2] ∧ Blk wr (w.heap.size + 1) 26 #[.int .i64 0, .int .i64 0, .slice none 0 0] ∧ Below w.heap.size w wr ∧ w3.heap.size ≤ wr.heap.size) (fun _ si _ => N - (intOf si).toNat)
      case atStart =>
        exact ⟨0, _, 0, Nat.zero_le _, rfl, rfl, b1.out.own (n := 0) (size := 1) hszo rfl (by unfold maxLen; omega), O.out.alloc _, X.out.alloc _, R.out.alloc _, HB.out.alloc hszo _, by simp; omega⟩
      case round =>
        clear O X R HB b1 d2 e2 hszo
        obtain ⟨i, Al, cl, hi, rfl, rfl, hol, ho, hx, hr, hb, hz2⟩ := hrel
        have hle := edgeTo_len cs' W H i
        have hszr := hb.size
        have OL := Lib.hid hol
        have O := Lib.hid ho
        have X := Lib.hid hx
        have R := Lib.hid hr
        have HB := Lib.hid hb
        clear hol ho hx hr hb
        have d0 : wr.cell? ⟨w2.heap.size, 0, none⟩ = some (.int .i64 W) := X.out.cell 0
        have d1 : wr.cell? ⟨w2.heap.size, 1, none⟩ = some (.int .i64 H) := X.out.cell 1
        have d2 : wr.cell? ⟨w2.heap.size, 2, none⟩ = some (.slice (some ⟨ga, 0, none⟩) N c2) := X.out.cell 2
        by_cases hiN : i < N
        · have hii : (i : Int) < (N : Int) := by omega
          have cC := own_cellB O.out hiN
          obtain ⟨q, hq⟩ : ∃ q, cs'.getD i false = q := ⟨_, rfl⟩
          rw [hq] at cC
          have HQ := Lib.hid hq
          clear hq
          cases q
          · have TC := Lib.hid (touches_any W H N i (some ⟨ga, 0, none⟩) c2 cs' wr hW hW' hH hH' HL'.out HP.out hiN (Rd.own O.out))
            obtain ⟨t, ht⟩ : ∃ t, touch cs' (nbs W H i) = t := ⟨_, rfl⟩
            rw [ht] at TC
            have HTO := Lib.hid ht
            clear ht
            go_wp2_with fail
            refine TC.out.mono ?_
            rintro e w7 ⟨rfl, hb7⟩
            have hz7 := hb7.size
            have OL7 := Lib.hid (own_below OL.out hb7)
            have O7 := Lib.hid (own_below O.out hb7)
            have X7 := Lib.hid (X.out.below hb7 X.out.lt)
            have R7 := Lib.hid (R.out.below hb7 R.out.lt)
            have HB7 := Lib.hid (HB.out.trans (hb7.mono hszr))
            have hsz7 := HB7.out.size
            clear hb7 TC
            cases t
            · have E1 := Lib.hid (edgeTo_no (k := i) HQ.out HTO.out)
              go_wp2
              go_roundw
              case rel => exact ⟨i + 1, Al, cl, by omega, by go_num, by rw [E1.out], by rw [E1.out]; exact OL7.out, O7.out, X7.out, R7.out, HB7.out, by omega⟩
              case measure => simp [intOf]; omega
            · have E1 := Lib.hid (edgeTo_yes (k := i) HQ.out HTO.out)
              go_wp2_with (at_builtin; refine wpList_append_one (W := w7) rfl _ _ _ rfl w.heap.size 2 (.int .i64 0) 8 Try.underlying28 intInfo rfl Al (edgeTo cs' W H i).length cl _ rfl OL7.out (.int .i64 (i : Int)) _ rfl (by simp) rfl (by unfold maxLen; omega) (by omega) hsz7 ?_; intro A8 c8 w8 ho8 hg8 hd8)
              have hz8 := hg8.size
              go_roundw
              case rel =>
                refine ⟨i + 1, A8, c8, by omega, by go_num, by rw [E1.out]; simp, ?_, own_kept O7.out hg8 (Dis.types O7.out OL7.out (by decide)), X7.out.grown hg8 (own_blk_ne OL7.out X7.out (by decide)), R7.out.grown hg8 (own_blk_ne OL7.out R7.out (by decide)), HB7.out.grown hg8 hsz7 (fun j e => (OL7.out.lt j e).1), by omega⟩
                rw [E1.out, List.length_append, List.map_append]; exact ho8
              case measure => simp [intOf]; omega
          · have E1 := Lib.hid (edgeTo_full (W := W) (H := H) (k := i) HQ.out)
            go_wp2
            go_roundw
            case rel => exact ⟨i + 1, Al, cl, by omega, by go_num, by rw [E1.out], by rw [E1.out]; exact OL.out, O.out, X.out, R.out, HB.out, hz2⟩
            case measure => simp [intOf]; omega
        · obtain rfl : i = N := by omega
          obtain ⟨L, eL⟩ : ∃ L, edgeTo cs' W H i = L := ⟨_, rfl⟩
          have HEL := Lib.hid eL
          rw [eL] at OL hle ⊢
          by_cases hL0 : L.length = 0
          · have hT : T = none := by rw [← HS.out, HK'.out]; exact grows_none (by rw [HEL.out]; exact hL0)
            have HTT := Lib.hid hT
            clear hT eL
            have hLi : decide ((L.length : Int) = 0) = true := by simp; exact List.length_eq_zero_iff.1 hL0
            go_wp2_with (first
              | (refine wpList_store_blk rfl _ _ _ rfl (w.heap.size + 1) 0 rfl _ rfl [.int .i64 0, .int .i64 0, .slice none 0 0] rfl 26 _ #[.int .i64 0, .int .i64 0, .slice none 0 0] R.out (by kernel_rfl) (by simp) (by simp [Value.oneCell']) rfl ?_; intro w6 R6 g6)
              | fail)
            refine bodyPost_ret (results_row3 rfl _ w6 (w.heap.size + 1) 26 _ _ rfl R6 Try.underlying26 rfl (by kernel_rfl) _ _ rfl rfl) rfl ?_
            rw [HT1.out, HTT.out]
            exact ⟨rfl, HB.out.grown g6 (by omega) (fun k e => by injection e with e; omega)⟩
          · have hst := HS.out
            rw [HK'.out, grows_step (by rw [HEL.out]; exact hL0)] at hst
            have hpos : 0 < (edgeTo cs' W H i).length := by rw [HEL.out]; omega
            obtain ⟨p, ep⟩ : ∃ p, pickE cs' W H i s = p := ⟨_, rfl⟩
            have hget := pickE_get (s := s) hpos
            have hpm := edgeTo_mem (pickE_mem (s := s) hpos)
            rw [ep] at hst hget hpm
            rw [HEL.out] at hget
            have hpN : p < i := hpm.1
            have hdl := drw_lt s (show 0 < L.length by omega)
            have hsn := nxt_lt s
            have HST := Lib.hid hst
            obtain ⟨d, ed⟩ : ∃ d, drw s L.length = d := ⟨_, rfl⟩
            rw [ed] at hget hdl
            have DC := Lib.hid (drawBelow_any s L.length wr hsl (by omega))
            rw [ed] at DC
            obtain ⟨gl, cl', hvl, _, hgl⟩ := OL.out.form (by omega)
            obtain ⟨rfl, rfl⟩ : Al = some ⟨gl, 0, none⟩ ∧ cl = cl' := by injection hvl with h1 _ h3; exact ⟨h1, h3⟩
            have cL : Hid (∀ m, (wr.drewN m).cell? ⟨gl, d, none⟩ = some (.int .i64 (p : Int))) := fun m => by
              show wr.cell? _ = _
              rw [OL.out.cellAt _ (by omega), List.getElem?_map, hget]; rfl
            obtain ⟨s2, es2⟩ : ∃ s2, nxt s = s2 := ⟨_, rfl⟩
            rw [es2] at hsn HST DC
            have hLi : decide ((L.length : Int) = 0) = false := by simp; intro h; rw [h] at hL0; exact hL0 rfl
            have hpi : (p : Int) < (i : Int) := by omega
            have hdi : (d : Int) < (L.length : Int) := by omega
            clear hst hget hpm eL ep ed es2 hvl hpos
            go_wp2_with fail
            refine DC.out.mono ?_
            rintro e w5 ⟨rfl, m5, h5⟩
            have O5 : Hid (w5.ownsRow w.heap.size 4 1 (.slice (some ⟨ga, 0, none⟩) i c2) i (cs'.map bv)) := by rw [h5]; exact O.out
            have X5 : Hid (Blk w5 w2.heap.size 26 #[.int .i64 W, .int .i64 H, .slice (some ⟨ga, 0, none⟩) i c2]) := by rw [h5]; exact X.out
            have R5 : Hid (Blk w5 (w.heap.size + 1) 26 #[.int .i64 0, .int .i64 0, .slice none 0 0]) := by rw [h5]; exact R.out
            have HB5 : Hid (Below w.heap.size w w5) := by rw [h5]; exact below_drewN HB.out m5
            have hz5 : Hid (w3.heap.size ≤ w5.heap.size) := by rw [h5]; exact hz2
            have hszr := HB5.out.size
            have d2 : w5.cell? ⟨w2.heap.size, 2, none⟩ = some (.slice (some ⟨ga, 0, none⟩) i c2) := X5.out.cell 2
            have c1 : w5.cell? ⟨gl, d, none⟩ = some (.int .i64 (p : Int)) := by rw [h5]; exact cL.out m5
            have c2' : w5.cell? ⟨ga, p, none⟩ = some (.bool (cs'.getD p false)) := own_cellB O5.out hpN
            have f1 : w5.frozen? ⟨ga, p, none⟩ = false := O5.out.frozenAt _
            have O8 : Hid ((w5.setCell ⟨ga, p, none⟩ (.bool true)).ownsRow w.heap.size 4 1 (.slice (some ⟨ga, 0, none⟩) i c2) i ((cs'.set p true).map bv)) := by
              rw [List.map_set]
              exact (O5.out.stored p (.bool true)).1
            have X8 : Hid (Blk (w5.setCell ⟨ga, p, none⟩ (.bool true)) w2.heap.size 26 #[.int .i64 W, .int .i64 H, .slice (some ⟨ga, 0, none⟩) i c2]) := X5.out.far (fun e => own_blk_ne O5.out X5.out (by decide) (by rw [e]; rfl)) _
            have R8 : Hid (Blk (w5.setCell ⟨ga, p, none⟩ (.bool true)) (w.heap.size + 1) 26 #[.int .i64 0, .int .i64 0, .slice none 0 0]) := R5.out.far (fun e => own_blk_ne O5.out R5.out (by decide) (by rw [e]; rfl)) _
            have HB8 : Hid (Below w.heap.size w (w5.setCell ⟨ga, p, none⟩ (.bool true))) := HB5.out.grown (O5.out.stored p (.bool true)).2 hszr (fun j e => (O5.out.lt j e).1)
            have hl8 : Hid ((cs'.set p true).length = i) := by unfold Hid; rw [List.length_set]; exact HL'.out
            have hz8 : Hid (w3.heap.size ≤ (w5.setCell ⟨ga, p, none⟩ (.bool true)).heap.size) := by unfold Hid; simpa [World.setCell] using hz5.out
            clear cL DC h5
            go_wp2
            go_still_tail 7, (by kernel_rfl)
            go_wp2
            go_roundw
            case rel => exact ⟨j + 1, k', s2, cs'.set p true, by go_num, rfl, hjk', hk5, hsn, hl8, O8.out, X8.out, R8.out, HB8.out.drew, hz8.out, HST⟩
            case measure => first | (simp [intOf]; done) | (simp [intOf]; omega)
end Go.Proofs.Ytknonmfffcjonaa
