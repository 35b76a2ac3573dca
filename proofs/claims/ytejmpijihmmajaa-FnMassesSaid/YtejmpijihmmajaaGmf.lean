/- Walk: how many full cells are near. Conditions: sides of 1 to 6, the middle's parts whole numbers up to 5. -/
import Derived.Test.YtejmpijihmmajaaGme
namespace Go.Proofs.Ytejmpijihmmajaa
open Go.RowKit
open Num Quick
attribute [local go_sem] run_store_fl run_store_cx

theorem long_step {p1 p2 a b x y X Y : Nat} (hp : Wn (x : Int) p1) (hq : Wn (y : Int) p2) (hx : x ≤ 5) (hy : y ≤ 5) (hX : X ≤ 5) (hY : Y ≤ 5) (ha : Wn (X : Int) a) (hb : Wn (Y : Int) b) :
    ∃ u v r, (∀ w : World, Calls Try.prog 21 #[.complex .f32 p1 p2, .complex .f32 a b] w fun e w' => e = .returned (.complex .f32 u v) ∧ w' = w) ∧ (∀ w : World, Calls Try.prog 25 #[.complex .f32 u v] w fun e w' => e = .returned (.float .f32 r) ∧ w' = w) ∧ Btw 12 r := by
  obtain ⟨u, v, C, wu, wv⟩ := diff_step hp hq ha hb (by omega) (by omega)
  have u1 := cast_le (show (x : Int) - X ≤ 5 by omega)
  have u2 := cast_le (show (-5 : Int) ≤ (x : Int) - X by omega)
  have v1 := cast_le (show (y : Int) - Y ≤ 5 by omega)
  have v2 := cast_le (show (-5 : Int) ≤ (y : Int) - Y by omega)
  rw [← wu.2] at u1 u2
  rw [← wv.2] at v1 v2
  have m5 : ((5 : Int) : Rat) ≤ mid := by decide +kernel
  have em5 : ((-5 : Int) : Rat) = -((5 : Int) : Rat) := by decide +kernel
  obtain ⟨r, D, g1⟩ := long_num wu.1 wv.1 ⟨by grind, by grind⟩ ⟨by grind, by grind⟩
  have su := sq_btw u1 u2
  have sv := sq_btw v1 v2
  have r12 := rep_nat .f32 12 (by decide)
  have e50 : ((25 : Int) : Rat) + ((25 : Int) : Rat) ≤ ((12 : Int) : Rat) * ((12 : Int) : Rat) := by decide +kernel
  exact ⟨u, v, r, C, D, g1.fin, g1.nonneg, g1.le _ r12 (by decide) (by grind)⟩
/-- Whether a length is at most r. -/
def nearB (l r : Nat) : Bool := decide (Num.fv .f32 l ≤ ((r : Int) : Rat))
theorem near_cmp {l r : Nat} (hl : Btw 12 l) (hr : r ≤ 100) : ∃ b1 b2, (FloatKind.f32.format.order l (floatOfInt .f32 (r : Int)) == some .lt) = b1 ∧ (FloatKind.f32.format.order l (floatOfInt .f32 (r : Int)) == some .eq) = b2 ∧ (b1 || b2) = nearB l r := by
  obtain ⟨f1, f2, _⟩ := fint .f32 (r : Int) (by omega)
  refine ⟨_, _, rfl, rfl, ?_⟩
  unfold nearB
  by_cases h : Num.fv .f32 l < ((r : Int) : Rat)
  · rw [cmp_lt' hl.1 f1 (by rw [f2]; exact h), decide_eq_true (Rat.le_of_lt h)]; rfl
  · by_cases h2 : Num.fv .f32 l = ((r : Int) : Rat)
    · rw [cmp_eq' hl.1 f1 (by rw [f2]; exact h2), decide_eq_true (by rw [h2]; exact Rat.le_refl)]; rfl
    · have h3 : ((r : Int) : Rat) < Num.fv .f32 l := by grind
      rw [cmp_gt' hl.1 f1 (by rw [f2]; exact h3), decide_eq_false (by grind)]; rfl
theorem near_mono {l r : Nat} (h : nearB l r = true) : nearB l (r + 1) = true := by
  unfold nearB at *
  rw [decide_eq_true_eq] at *
  have := cast_le (show (r : Int) ≤ ((r + 1 : Nat) : Int) by omega)
  grind
theorem near_12 {l : Nat} (hl : Btw 12 l) : nearB l 12 = true := by
  unfold nearB
  rw [decide_eq_true_eq]
  exact hl.2.2
/-- How many points are near. -/
def massN (L : Nat × Nat → Nat) (P : List (Nat × Nat)) (r : Nat) : Nat := P.countP (fun p => nearB (L p) r)
theorem massN_mono (L : Nat × Nat → Nat) (P : List (Nat × Nat)) (r : Nat) : massN L P r ≤ massN L P (r + 1) := List.countP_mono_left (fun p _ h => near_mono h)
theorem massN_12 {L : Nat × Nat → Nat} {P : List (Nat × Nat)} (h : ∀ p ∈ P, Btw 12 (L p)) : massN L P 12 = P.length := by
  unfold massN
  rw [List.countP_eq_length]
  exact fun p hp => near_12 (h p hp)
theorem massN_le (L : Nat × Nat → Nat) (P : List (Nat × Nat)) (r : Nat) : massN L P r ≤ P.length := List.countP_le_length
theorem massN_take {L : Nat × Nat → Nat} {P : List (Nat × Nat)} {k r : Nat} (h : k < P.length) : massN L (P.take (k + 1)) r = massN L (P.take k) r + if nearB (L (P.getD k (0, 0))) r then 1 else 0 := by
  unfold massN
  rw [List.take_add_one, List.getElem?_eq_getElem h, List.getD_eq_getElem?_getD, List.getElem?_eq_getElem h, List.countP_append]
  simp [List.countP_cons, List.countP_nil]
/-- The first k numbers. -/
def massL (L : Nat × Nat → Nat) (P : List (Nat × Nat)) (k : Nat) : List Nat := (List.range k).map (fun j => massN L P (j + 1))
theorem massL_succ (L : Nat × Nat → Nat) (P : List (Nat × Nat)) (k : Nat) : massL L P (k + 1) = massL L P k ++ [massN L P (k + 1)] := by
  unfold massL; rw [List.range_succ, List.map_append]; rfl
theorem massL_length (L : Nat × Nat → Nat) (P : List (Nat × Nat)) (k : Nat) : (massL L P k).length = k := by simp [massL]
theorem massL_get {L : Nat × Nat → Nat} {P : List (Nat × Nat)} {k j : Nat} (h : j < k) : (massL L P k).getD j 0 = massN L P (j + 1) := by
  unfold massL
  rw [List.getD_eq_getElem?_getD, List.getElem?_map, List.getElem?_range h]; rfl
set_option maxRecDepth 100000 in
set_option maxHeartbeats 4000000 in
theorem MassesOf_ok (W H N X Y : Nat) (A : Option Addr) (c : Nat) (cs : List Bool) (w : World) (hW : 1 ≤ W) (hW' : W ≤ 6) (hH : 1 ≤ H) (hH' : H ≤ 6) (hl : cs.length = N) (hP : W * H = N) (hX : X ≤ 5) (hY : Y ≤ 5)
    (hA : Rd w w.heap.size 1 A N (cs.map bv)) :
    Calls Try.prog 8 #[fieldV W H A N c, .complex .f32 (iw X) (iw Y), .int .i64 12] w fun e w' => ∃ (L : Nat × Nat → Nat) (g c' : Nat), e = .returned (.tuple #[.slice (some ⟨g, 0, none⟩) 12 c', .bool true]) ∧ (∀ p ∈ plc cs W N, Btw 12 (L p)) ∧
      w'.ownsRow w.heap.size 2 1 (.slice (some ⟨g, 0, none⟩) 12 c') 12 ((massL L (plc cs W N) 12).map nv) ∧ Below w.heap.size w w' := by
  have hN : N ≤ 36 := by have := Nat.mul_le_mul hW' hH'; omega
  obtain ⟨v, ev⟩ : ∃ v, v = w.alloc (.cells #[.int .i64 (W : Int), .int .i64 (H : Int), .slice A N c] 26) := ⟨_, rfl⟩
  have K0 : Blk v w.heap.size 26 #[.int .i64 (W : Int), .int .i64 (H : Int), .slice A N c] := by rw [ev]; exact Blk.new _ _ _
  have V0 : Hid (Below w.heap.size w v) := by rw [ev]; exact (Below.refl _ _).alloc (Nat.le_refl _) _
  have VF := ValidField_any (W : Int) (H : Int) A N c v
  rw [valid_wh hW (by omega) hH (by omega) hP] at VF
  have VFH := Lib.hid VF
  have b0 : v.cell? ⟨w.heap.size, 0, none⟩ = some (.int .i64 (W : Int)) := K0.cell 0
  have b1' : v.cell? ⟨w.heap.size, 1, none⟩ = some (.int .i64 (H : Int)) := K0.cell 1
  have b2 : v.cell? ⟨w.heap.size, 2, none⟩ = some (.slice A N c) := K0.cell 2
  have KV := Lib.hid K0
  have HA := Lib.hid hA
  have HL := Lib.hid hl
  have EV := Lib.hid ev
  have hPT : ∀ p ∈ plc cs W N, p.1 ≤ 5 ∧ p.2 ≤ 5 := fun p hp => by have := plc_lt hW hP p hp; omega
  have PC := fun w' hA' => places_ok W H N A c cs w' hW (by omega) hH (by omega) hl hP hA'
  have HPL := Lib.hid (plc_length cs W N)
  have HFL := Lib.hid (fulls_le cs N)
  have LS : ∀ p : Nat × Nat, ∃ t : Nat × Nat × Nat, p.1 ≤ 5 ∧ p.2 ≤ 5 → (∀ w : World, Calls Try.prog 21 #[.complex .f32 (iw p.1) (iw p.2), .complex .f32 (iw X) (iw Y)] w fun e w' => e = .returned (.complex .f32 t.1 t.2.1) ∧ w' = w) ∧ (∀ w : World, Calls Try.prog 25 #[.complex .f32 t.1 t.2.1] w fun e w' => e = .returned (.float .f32 t.2.2) ∧ w' = w) ∧ Btw 12 t.2.2 := fun p => by
    by_cases h : p.1 ≤ 5 ∧ p.2 ≤ 5
    · obtain ⟨u, v, r, h1, h2, h3⟩ := long_step (wn_iw (n := p.1) (by omega)) (wn_iw (n := p.2) (by omega)) h.1 h.2 hX hY (wn_iw (n := X) (by omega)) (wn_iw (n := Y) (by omega))
      exact ⟨(u, v, r), fun _ => ⟨h1, h2, h3⟩⟩
    · exact ⟨(0, 0, 0), fun h' => absurd h' h⟩
  obtain ⟨F, hF⟩ := Classical.axiomOfChoice LS
  have FC := Lib.hid (fun w => finiteC_num (iw_num (n := X) (by omega)).1 (iw_num (n := Y) (by omega)).1 w)
  have L12 : Hid (∀ p ∈ plc cs W N, Btw 12 ((fun p => (F p).2.2) p)) := Lib.hid fun p hp => (hF p (hPT p hp)).2.2
  have HPT := Lib.hid hPT
  have HF := Lib.hid hF
  rw [ev] at b0 b1' b2
  unfold fieldV at VFH PC
  have PCH := Lib.hid PC
  unfold fieldV
  clear VF K0 hA hl ev hP PC LS hF hPT
  go_enter Try.func8, Try.ntmps8
  go_wp2_with fail
  rw [← EV.out]
  refine VFH.out.mono ?_
  rintro e w1 ⟨rfl, hb⟩
  have K1 := Lib.hid (KV.out.below hb KV.out.lt)
  have V1 := Lib.hid (V0.out.trans (hb.mono V0.out.size))
  clear hb b0 b1' b2 VFH
  go_wp2_with fail
  refine (FC.out _).mono ?_
  rintro e w5 ⟨rfl, hw5⟩
  obtain rfl := hw5.symm
  go_wp2_with fail
  refine (isFieldSide_any 12 _).mono ?_
  rintro e w5 ⟨rfl, hw5⟩
  obtain rfl := hw5.symm
  rw [show inB 12 1 16 = true from rfl]
  go_wp2
  obtain ⟨w2, ew2⟩ : ∃ w2, w2 = w1.alloc (.cells #[] 2) := ⟨_, rfl⟩
  have O2 : Hid (w2.ownsRow w.heap.size 2 1 (.slice (some ⟨w1.heap.size, 0, none⟩) (massL (fun p => (F p).2.2) (plc cs W N) 0).length 0) 0 ((massL (fun p => (F p).2.2) (plc cs W N) 0).map nv)) := by
    rw [ew2]; exact (Blk.new w1 _ _).own (n := 0) (size := 1) V1.out.size rfl (by unfold maxLen; omega)
  have K2 : Hid (Blk w2 w.heap.size 26 #[.int .i64 (W : Int), .int .i64 (H : Int), .slice A N c]) := by rw [ew2]; exact K1.out.alloc _
  have V2 : Hid (Below w.heap.size w w2) := by rw [ew2]; exact V1.out.alloc V1.out.size _
  rw [← ew2]
  have hz0 : w.heap.size < w2.heap.size := K2.out.lt
  clear ew2
  go_loopw [8, 9] (fun so si wr => ∃ (k g c' : Nat), k ≤ 12 ∧ si = .int .i64 ((k + 1 : Nat) : Int) ∧ so = .slice (some ⟨g, 0, none⟩) k c' ∧ Hid (wr.ownsRow w.heap.size 2 1 (.slice (some ⟨g, 0, none⟩) k c') k ((massL (fun p => (F p).2.2) (plc cs W N) k).map nv)) ∧
    Hid (Blk wr w.heap.size 26 #[.int .i64 (W : Int), .int .i64 (H : Int), .slice A N c]) ∧ Hid (Below w.heap.size w wr)) (fun _ si _ => 13 - (intOf si).toNat)
  case atStart => exact ⟨0, _, _, Nat.zero_le _, rfl, rfl, O2, K2, V2⟩
  case round =>
    clear O2 K2 V2
    obtain ⟨k, g, c', hk, rfl, rfl, HO, HK, HB⟩ := hrel
    obtain ⟨r, hr⟩ : ∃ r, k + 1 = r := ⟨_, rfl⟩
    rw [hr]
    by_cases hlt : k < 12
    · have hr1 : (r : Int) ≤ 12 := by omega
      have k0 := HK.out.cell 0
      have k1 := HK.out.cell 1
      have k2 := HK.out.cell 2
      have hgw : w.heap.size ≤ g := (HO.out.lt g rfl).1
      have HR := Lib.hid hr
      clear hr
      go_wp2_with fail
      refine (PCH.out _ ((HA.out.below HB.out).more HB.out.size)).mono ?_
      rintro e w3 ⟨g3, c3, rfl, ho3, hb3⟩
      have V3 := Lib.hid (HB.out.trans (hb3.mono HB.out.size))
      have K3 := Lib.hid (HK.out.below hb3 HK.out.lt)
      have O3 : Hid (w3.ownsRow w.heap.size 2 1 (.slice (some ⟨g, 0, none⟩) k c') k ((massL (fun p => (F p).2.2) (plc cs W N) k).map nv)) := Lib.hid (own_below HO.out hb3)
      have R3 : Hid (Rd w3 w3.heap.size 1 (some ⟨g3, 0, none⟩) (plc cs W N).length ((plc cs W N).map icx)) := Lib.hid (Rd.own ho3)
      clear ho3 hb3 k0 k1 k2 HO HK HB
      obtain ⟨M, hM⟩ : ∃ M, (plc cs W N).length = M := ⟨_, rfl⟩
      rw [hM] at R3 ⊢
      have hMN : M ≤ 36 := by have := HPL.out; have := HFL.out; omega
      have HM := Lib.hid hM
      clear hM
      go_wp2
      go_loop [10, 35] (fun sn sj => ∃ j : Nat, j ≤ M ∧ sj = .int .i64 (j : Int) ∧ sn = .int .i64 ((massN (fun p => (F p).2.2) ((plc cs W N).take j) r : Nat) : Int)) (fun _ i => M - (intOf i).toNat)
      case atStart => exact ⟨0, Nat.zero_le _, rfl, rfl⟩
      case round =>
        obtain ⟨j, hj, rfl, rfl⟩ := hrel
        by_cases hlj : j < M
        · obtain ⟨bl, off, hbo, hbb, hc⟩ := R3.out.2 (by omega)
          obtain ⟨rfl, rfl⟩ : g3 = bl ∧ 0 = off := by injection hbo with e; injection e with e1 e2; exact ⟨e1, e2⟩
          have cP := hc j _ (icx_get HM.out hlj)
          rw [Nat.zero_add] at cP
          have hp := HPT.out _ (plc_mem HM.out hlj)
          have MT := massN_take (L := fun p => (F p).2.2) (P := plc cs W N) (k := j) (r := r) (by rw [HM.out]; exact hlj)
          have ML : massN (fun p => (F p).2.2) ((plc cs W N).take j) r ≤ j := by
            refine Nat.le_trans (massN_le _ _ _) ?_
            rw [List.length_take]; omega
          have HFp := HF.out _ hp
          generalize (plc cs W N).getD j (0, 0) = p at *
          obtain ⟨m, hm⟩ : ∃ m, massN (fun p => (F p).2.2) ((plc cs W N).take j) r = m := ⟨_, rfl⟩
          rw [hm] at MT ML ⊢
          obtain ⟨q, hq⟩ : ∃ q, nearB (F p).2.2 r = q := ⟨_, rfl⟩
          obtain ⟨q1, q2, o1, o2, o3⟩ := near_cmp (r := r) HFp.2.2 (by omega)
          rw [hq] at o3
          have MTH : Hid (massN (fun p => (F p).2.2) ((plc cs W N).take (j + 1)) r = m + if q then 1 else 0) := by rw [← hq]; exact Lib.hid MT
          have SCH := Lib.hid HFp.1
          have LCH := Lib.hid HFp.2.1
          have QI := rInt32 (r : Int)
          have hjI : (j : Int) < (M : Int) := by omega
          clear HFp hp hc hbo MT hm hq
          generalize iw p.1 = p1 at *
          generalize iw p.2 = p2 at *
          generalize iw X = fX at *
          generalize iw Y = fY at *
          generalize (F p).1 = u at *
          generalize (F p).2.1 = v1 at *
          generalize (F p).2.2 = l at *
          generalize floatOfInt .f32 (r : Int) = fr at *
          cases q1 <;> cases q2 <;> simp only [Bool.or_self, Bool.or_true, Bool.true_or, Bool.or_false, Bool.false_or] at o3 <;> subst o3
          all_goals
            go_wp2_with (first
              | (go_at_call 21; refine (SCH.out _).mono ?_; rintro e w5 ⟨rfl, hw5⟩; obtain rfl := hw5.symm)
              | (go_at_call 25; refine (LCH.out _).mono ?_; rintro e w5 ⟨rfl, hw5⟩; obtain rfl := hw5.symm))
            go_round
            case rel => exact ⟨j + 1, by omega, by go_num, by rw [MTH.out]; first | rfl | go_num⟩
            case measure => simp [intOf]; omega
        · obtain rfl : j = M := by omega
          have e1 : massN (fun p => (F p).2.2) ((plc cs W N).take j) r = massN (fun p => (F p).2.2) (plc cs W N) r := by rw [List.take_of_length_le (by rw [HM.out]; exact Nat.le_refl _)]
          have MLE := massN_le (fun p => (F p).2.2) (plc cs W N) r
          rw [HM.out] at MLE
          rw [e1]
          have MS : Hid (massL (fun p => (F p).2.2) (plc cs W N) (k + 1) = massL (fun p => (F p).2.2) (plc cs W N) k ++ [massN (fun p => (F p).2.2) (plc cs W N) r]) := by rw [← HR.out]; exact Lib.hid (massL_succ _ _ _)
          clear e1
          generalize massN (fun p => (F p).2.2) (plc cs W N) r = m at *
          go_wp2_with (first
            | (at_builtin; refine wpList_append_one (P := Try.prog) (W := w3) rfl _ _ _ rfl w.heap.size 2 (.int .i64 0) 8 Try.underlying34 intInfo rfl (some ⟨g, 0, none⟩) k c' _ rfl O3.out (.int .i64 (m : Int)) _ rfl (by simp) rfl (by unfold maxLen; omega) (by omega) V3.out.size ?_; intro A9 c9 w9 ho9 hg9 hd9)
            | fail)
          obtain ⟨g9, c9', e9, _, _⟩ := ho9.form (by omega)
          rw [e9] at ho9
          have K9 := Lib.hid (K3.out.grown hg9 (own_blk_ne O3.out K3.out (by decide)))
          have V9 := Lib.hid (V3.out.grown hg9 V3.out.size (fun k e => (O3.out.lt k e).1))
          have O9 : Hid (w9.ownsRow w.heap.size 2 1 (.slice (some ⟨g9, 0, none⟩) (k + 1) c9') (k + 1) ((massL (fun p => (F p).2.2) (plc cs W N) (k + 1)).map nv)) := by
            rw [MS.out, List.map_append]; exact Lib.hid ho9
          have E9 := Lib.hid e9
          clear ho9 hg9 hd9 e9
          go_wp2
          go_roundw
          case rel => exact ⟨k + 1, g9, c9', by omega, by have := HR.out; go_num, by rw [E9.out], O9, K9, V9⟩
          case measure => have := HR.out; simp [intOf]; omega
    · obtain rfl : k = 12 := by omega
      have hrI : (12 : Int) < (r : Int) := by omega
      go_wp2
      go_ret2
      exact ⟨fun p => (F p).2.2, g, c', rfl, L12.out, HO.out, HB.out⟩
end Go.Proofs.Ytejmpijihmmajaa
