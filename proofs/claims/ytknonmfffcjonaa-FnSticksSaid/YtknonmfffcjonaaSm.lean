/- Walks: StickMany of the program and of the reference give the same (printed by gen_many.py). Condition: none but that the cells can be read. -/
import Derived.Test.YtknonmfffcjonaaSo
namespace Go.Proofs.Ytknonmfffcjonaa
open Go.RowKit

/-- What StickMany gives. -/
def SmRes (wd hi : Int) (C : List Bool) (x y : Int) (ok : Bool) (w : World) (e : Ending) (w' : World) : Prop :=
  ∃ A c, e = .returned (.tuple #[fieldV wd hi A C.length c, .int .i64 x, .int .i64 y, .bool ok]) ∧ w'.ownsRow w.heap.size 4 1 (.slice A C.length c) C.length (C.map bv) ∧ Below w.heap.size w w'
theorem smRes_no {w w' : World} (hb : Below w.heap.size w w') : SmRes 0 0 [] 0 0 false w (.returned (.tuple #[.agg #[.int .i64 0, .int .i64 0, .slice none 0 0], .int .i64 0, .int .i64 0, .bool false])) w' :=
  ⟨none, 0, rfl, World.ownsRow_nil _ _ _ _, hb⟩
theorem sticks_step (W H most k : Nat) (cs : List Bool) (s n : Nat) : sticks W H most (k + 1) cs s n = sticks W H most k (stick cs W H most s).2.2 (stick cs W H most s).1 (n + (stick cs W H most s).2.1.toNat) := rfl


set_option maxRecDepth 100000 in
set_option maxHeartbeats 2000000 in
theorem specMany_no (wd hi count most seed : Int) (A : Option Addr) (n c : Nat) (w : World) (h : (validB wd hi n && inB count 0 512 && inB most 0 512 && inB seed 0 2147483647) = false) :
    Calls Try.prog 16 #[fieldV wd hi A n c, .int .i64 count, .int .i64 most, .int .i64 seed] w (SmRes 0 0 [] 0 0 false w) := by
  obtain ⟨v, ev⟩ : ∃ v, v = (w.alloc (.cells #[.int .i64 wd, .int .i64 hi, .slice A n c] 26)).alloc (.cells #[.int .i64 0, .int .i64 0, .slice none 0 0] 26) := ⟨_, rfl⟩
  have B0 : Hid (Below w.heap.size w v) := by rw [ev]; exact ((Below.refl _ _).alloc (Nat.le_refl _) _).alloc (by simp) _
  have bI : Hid (Blk v w.heap.size 26 #[.int .i64 wd, .int .i64 hi, .slice A n c]) := by rw [ev]; exact (Blk.new w _ _).alloc _
  have bR : Hid (Blk v (w.heap.size + 1) 26 #[.int .i64 0, .int .i64 0, .slice none 0 0]) := by rw [ev]; exact Blk.new2 _ _ _ _
  have hsz0 := B0.out.size
  have hlt0 : w.heap.size + 1 < v.heap.size := bR.out.lt
  have EV := Lib.hid ev
  obtain ⟨p, hp⟩ : ∃ p, validB wd hi n = p := ⟨_, rfl⟩
  obtain ⟨t, ht⟩ : ∃ t, inB count 0 512 = t := ⟨_, rfl⟩
  obtain ⟨q, hq⟩ : ∃ q, inB most 0 512 = q := ⟨_, rfl⟩
  obtain ⟨r, hr⟩ : ∃ r, inB seed 0 2147483647 = r := ⟨_, rfl⟩
  rw [hp, ht, hq, hr] at h
  have HP := Lib.hid hp
  have HT := Lib.hid ht
  have HQ := Lib.hid hq
  have HR := Lib.hid hr
  clear hp hq hr ev ht
  unfold fieldV
  cases p
  · clear h
    go_enter Try.func16, Try.ntmps16
    go_wp2_with fail
    rw [← EV.out]
    refine (l07Is_any wd hi A n c w.heap.size _ bI.out).mono ?_
    rintro e w1 ⟨rfl, hb1⟩
    rw [HP.out]
    have HB1 := Lib.hid (B0.out.trans (hb1.mono hsz0))
    have R1 := Lib.hid (bR.out.below hb1 bR.out.lt)
    have I1 := Lib.hid (bI.out.below hb1 bI.out.lt)
    have hsz1 := hb1.size
    clear hb1
    go_wp2_with (first
      | (refine wpList_store_blk rfl _ _ _ rfl (w.heap.size + 1) 0 rfl _ rfl [.int .i64 0, .int .i64 0, .slice none 0 0] rfl 26 _ #[.int .i64 0, .int .i64 0, .slice none 0 0] R1.out (by kernel_rfl) (by simp) (by simp [Value.oneCell']) rfl ?_; intro w2 R2 g2)
      | fail)
    refine bodyPost_ret (results_row4 rfl _ w2 (w.heap.size + 1) 26 _ _ rfl R2 Try.underlying26 rfl (by kernel_rfl) _ _ _ rfl rfl rfl) rfl ?_
    exact smRes_no (HB1.out.grown g2 (by omega) (fun k e => by injection e with e; omega))
  · skip
    cases t
    · clear h
      go_enter Try.func16, Try.ntmps16
      go_wp2_with fail
      rw [← EV.out]
      refine (l07Is_any wd hi A n c w.heap.size _ bI.out).mono ?_
      rintro e w1 ⟨rfl, hb1⟩
      rw [HP.out]
      have HB1 := Lib.hid (B0.out.trans (hb1.mono hsz0))
      have R1 := Lib.hid (bR.out.below hb1 bR.out.lt)
      have I1 := Lib.hid (bI.out.below hb1 bI.out.lt)
      have hsz1 := hb1.size
      clear hb1
      go_wp2_with fail
      refine (l00In_any _ _ _ _).mono ?_
      rintro e w5 ⟨rfl, h5⟩
      obtain rfl := h5.symm
      rw [HT.out]
      go_wp2_with (first
        | (refine wpList_store_blk rfl _ _ _ rfl (w.heap.size + 1) 0 rfl _ rfl [.int .i64 0, .int .i64 0, .slice none 0 0] rfl 26 _ #[.int .i64 0, .int .i64 0, .slice none 0 0] R1.out (by kernel_rfl) (by simp) (by simp [Value.oneCell']) rfl ?_; intro w2 R2 g2)
        | fail)
      refine bodyPost_ret (results_row4 rfl _ w2 (w.heap.size + 1) 26 _ _ rfl R2 Try.underlying26 rfl (by kernel_rfl) _ _ _ rfl rfl rfl) rfl ?_
      exact smRes_no (HB1.out.grown g2 (by omega) (fun k e => by injection e with e; omega))
    · skip
      cases q
      · clear h
        go_enter Try.func16, Try.ntmps16
        go_wp2_with fail
        rw [← EV.out]
        refine (l07Is_any wd hi A n c w.heap.size _ bI.out).mono ?_
        rintro e w1 ⟨rfl, hb1⟩
        rw [HP.out]
        have HB1 := Lib.hid (B0.out.trans (hb1.mono hsz0))
        have R1 := Lib.hid (bR.out.below hb1 bR.out.lt)
        have I1 := Lib.hid (bI.out.below hb1 bI.out.lt)
        have hsz1 := hb1.size
        clear hb1
        go_wp2_with fail
        refine (l00In_any _ _ _ _).mono ?_
        rintro e w5 ⟨rfl, h5⟩
        obtain rfl := h5.symm
        rw [HT.out]
        go_wp2_with fail
        refine (l00In_any _ _ _ _).mono ?_
        rintro e w5 ⟨rfl, h5⟩
        obtain rfl := h5.symm
        rw [HQ.out]
        go_wp2_with (first
          | (refine wpList_store_blk rfl _ _ _ rfl (w.heap.size + 1) 0 rfl _ rfl [.int .i64 0, .int .i64 0, .slice none 0 0] rfl 26 _ #[.int .i64 0, .int .i64 0, .slice none 0 0] R1.out (by kernel_rfl) (by simp) (by simp [Value.oneCell']) rfl ?_; intro w2 R2 g2)
          | fail)
        refine bodyPost_ret (results_row4 rfl _ w2 (w.heap.size + 1) 26 _ _ rfl R2 Try.underlying26 rfl (by kernel_rfl) _ _ _ rfl rfl rfl) rfl ?_
        exact smRes_no (HB1.out.grown g2 (by omega) (fun k e => by injection e with e; omega))
      · skip
        obtain rfl : r = false := by simpa using h
        clear h
        go_enter Try.func16, Try.ntmps16
        go_wp2_with fail
        rw [← EV.out]
        refine (l07Is_any wd hi A n c w.heap.size _ bI.out).mono ?_
        rintro e w1 ⟨rfl, hb1⟩
        rw [HP.out]
        have HB1 := Lib.hid (B0.out.trans (hb1.mono hsz0))
        have R1 := Lib.hid (bR.out.below hb1 bR.out.lt)
        have I1 := Lib.hid (bI.out.below hb1 bI.out.lt)
        have hsz1 := hb1.size
        clear hb1
        go_wp2_with fail
        refine (l00In_any _ _ _ _).mono ?_
        rintro e w5 ⟨rfl, h5⟩
        obtain rfl := h5.symm
        rw [HT.out]
        go_wp2_with fail
        refine (l00In_any _ _ _ _).mono ?_
        rintro e w5 ⟨rfl, h5⟩
        obtain rfl := h5.symm
        rw [HQ.out]
        go_wp2_with fail
        refine (l07Seed_any _ _).mono ?_
        rintro e w5 ⟨rfl, h5⟩
        obtain rfl := h5.symm
        rw [HR.out]
        go_wp2_with (first
          | (refine wpList_store_blk rfl _ _ _ rfl (w.heap.size + 1) 0 rfl _ rfl [.int .i64 0, .int .i64 0, .slice none 0 0] rfl 26 _ #[.int .i64 0, .int .i64 0, .slice none 0 0] R1.out (by kernel_rfl) (by simp) (by simp [Value.oneCell']) rfl ?_; intro w2 R2 g2)
          | fail)
        refine bodyPost_ret (results_row4 rfl _ w2 (w.heap.size + 1) 26 _ _ rfl R2 Try.underlying26 rfl (by kernel_rfl) _ _ _ rfl rfl rfl) rfl ?_
        exact smRes_no (HB1.out.grown g2 (by omega) (fun k e => by injection e with e; omega))

set_option maxRecDepth 100000 in
set_option maxHeartbeats 4000000 in
theorem specMany_ok (W H N count most seed : Nat) (A : Option Addr) (c : Nat) (cs : List Bool) (w : World) (hW : 1 ≤ W) (hW' : W ≤ 16) (hH : 1 ≤ H) (hH' : H ≤ 16) (hl : cs.length = N) (hP : W * H = N) (h : validB W H N = true)
    (hk : count ≤ 512) (hm : most ≤ 512) (hs : seed ≤ 2147483647) (hA : Rd w w.heap.size 1 A N (cs.map bv)) :
    Calls Try.prog 16 #[fieldV W H A N c, .int .i64 (count : Int), .int .i64 (most : Int), .int .i64 (seed : Int)] w (SmRes W H (sticks W H most count cs seed 0).1 (sticks W H most count cs seed 0).2.1 (sticks W H most count cs seed 0).2.2 true w) := by
  obtain ⟨v, ev⟩ : ∃ v, v = (w.alloc (.cells #[.int .i64 W, .int .i64 H, .slice A N c] 26)).alloc (.cells #[.int .i64 0, .int .i64 0, .slice none 0 0] 26) := ⟨_, rfl⟩
  have B0 : Hid (Below w.heap.size w v) := by rw [ev]; exact ((Below.refl _ _).alloc (Nat.le_refl _) _).alloc (by simp) _
  have bI : Hid (Blk v w.heap.size 26 #[.int .i64 W, .int .i64 H, .slice A N c]) := by rw [ev]; exact (Blk.new w _ _).alloc _
  have bR : Hid (Blk v (w.heap.size + 1) 26 #[.int .i64 0, .int .i64 0, .slice none 0 0]) := by rw [ev]; exact Blk.new2 _ _ _ _
  have hsz0 := B0.out.size
  have hlt0 : w.heap.size + 1 < v.heap.size := bR.out.lt
  have EV := Lib.hid ev
  have HH := Lib.hid h
  have HL := Lib.hid hl
  have HP := Lib.hid hP
  have hN256 : N ≤ 256 := by have := Nat.mul_le_mul hW' hH'; omega
  have hN1 : 1 ≤ N := by rw [← hP]; exact Nat.mul_pos hW hH
  have HT : Hid (inB (count : Int) 0 512 = true) := by unfold Hid inB; simp; omega
  have HQ : Hid (inB (most : Int) 0 512 = true) := by unfold Hid inB; simp; omega
  have HR : Hid (inB (seed : Int) 0 2147483647 = true) := by unfold Hid inB; simp; omega
  clear ev h hl hP
  unfold fieldV
  go_enter Try.func16, Try.ntmps16
  go_wp2_with fail
  rw [← EV.out]
  refine (l07Is_any W H A N c w.heap.size _ bI.out).mono ?_
  rintro e w1 ⟨rfl, hb1⟩
  rw [HH.out]
  have HB1 := Lib.hid (B0.out.trans (hb1.mono hsz0))
  have R1 := Lib.hid (bR.out.below hb1 bR.out.lt)
  have I1 := Lib.hid (bI.out.below hb1 bI.out.lt)
  have hsz1 := hb1.size
  clear hb1
  go_wp2_with fail
  refine (l00In_any _ _ _ _).mono ?_
  rintro e w5 ⟨rfl, h5⟩
  obtain rfl := h5.symm
  rw [HT.out]
  go_wp2_with fail
  refine (l00In_any _ _ _ _).mono ?_
  rintro e w5 ⟨rfl, h5⟩
  obtain rfl := h5.symm
  rw [HQ.out]
  go_wp2_with fail
  refine (l07Seed_any _ _).mono ?_
  rintro e w5 ⟨rfl, h5⟩
  obtain rfl := h5.symm
  rw [HR.out]
  go_wp2_with fail
  refine (l07Own_any W H N A c w.heap.size cs _ hN1 hN256 HL.out I1.out ((hA.below HB1.out).more (by omega))).mono ?_
  rintro e w2 ⟨A2, c2, rfl, ho2, hb2⟩
  have hsz2 := hb2.size
  have HB2 := Lib.hid (HB1.out.trans (hb2.mono (by omega)))
  have R2 := Lib.hid (R1.out.below hb2 R1.out.lt)
  have O2 := Lib.hid ho2
  clear ho2 hb2
  unfold fieldV
  go_wp2_with (first
    | (refine wpList_store_blk rfl _ _ _ rfl w2.heap.size 0 rfl _ rfl [.int .i64 W, .int .i64 H, .slice A2 N c2] rfl 26 #[.int .i64 0, .int .i64 0, .slice none 0 0] #[.int .i64 W, .int .i64 H, .slice A2 N c2] (Blk.new _ _ _) (by kernel_rfl) (by simp) (by simp [Value.oneCell']) rfl ?_; intro w3 X3 g3)
    | fail)
  have hsz3 := g3.size
  simp only [World.size_alloc] at hsz3
  have HB3 := Lib.hid (below_boxed HB2.out (by omega) g3)
  have R3 := Lib.hid (blk_boxed R2.out g3)
  have O3 := Lib.hid (own_base (base' := w.heap.size) (own_boxed O2.out g3) (by omega))
  have HX3 := Lib.hid X3
  clear X3 g3
  obtain ⟨T, hT⟩ : ∃ T, sticks W H most count cs seed 0 = T := ⟨_, rfl⟩
  have hTl := sticks_len W H most count cs seed 0
  rw [hT] at hTl
  have HT0 := Lib.hid hT
  have HT1 := Lib.hid hT
  have HTL := Lib.hid hTl
  clear hT hTl
  go_loopw [1, 3, 13] (fun sk ss sn wr => ∃ (k s n : Nat) (cs' : List Bool), sk = .int .i64 k ∧ ss = .int .i64 s ∧ sn = .int .i64 n ∧ n + k ≤ 512 ∧ s ≤ 2147483647 ∧ Hid (cs'.length = N) ∧
      wr.ownsRow w.heap.size 4 1 (.slice A2 N c2) N (cs'.map bv) ∧ Blk wr w2.heap.size 26 #[.int .i64 W, .int .i64 H, .slice A2 N c2] ∧ Blk wr (w.heap.size + 1) 26 #[.int .i64 0, .int .i64 0, .slice none 0 0] ∧ Below w.heap.size w wr ∧ w3.heap.size ≤ wr.heap.size ∧ Hid (sticks W H most k cs' s n = T)) (fun sk _ _ _ => (intOf sk).toNat)
  case atStart => exact ⟨count, seed, 0, cs, rfl, rfl, rfl, by omega, hs, HL, O3.out, HX3.out, R3.out, HB3.out, Nat.le_refl _, HT0⟩
  case round =>
    clear O3 HX3 R3 HB3 HT0
    obtain ⟨k, s, n, cs', rfl, rfl, rfl, hnk, hsl, HL', ho, hx, hr, hb, hz, HS⟩ := hrel
    obtain ⟨wo, hwo⟩ : ∃ x, x = wr := ⟨_, rfl⟩
    subst hwo
    have O := Lib.hid ho
    have X := Lib.hid hx
    have R := Lib.hid hr
    have HB := Lib.hid hb
    clear ho hx hr hb
    by_cases hk0 : k = 0
    · obtain rfl := hk0
      have hT : T = (cs', s, n) := by rw [← HS.out]; rfl
      have HTT := Lib.hid hT
      have hl' := HL'.out
      clear hT
      go_wp2_with (first
        | (refine wpList_load_blk rfl _ _ rfl w2.heap.size 0 rfl 26 _ X.out [.int .i64 W, .int .i64 H, .slice A2 N c2] rfl _ Try.underlying26 rfl (by kernel_rfl) ?_)
        | (refine wpList_store_blk rfl _ _ _ rfl (w.heap.size + 1) 0 rfl _ rfl [.int .i64 W, .int .i64 H, .slice A2 N c2] rfl 26 _ #[.int .i64 W, .int .i64 H, .slice A2 N c2] R.out (by kernel_rfl) (by simp) (by simp [Value.oneCell']) rfl ?_; intro w6 R6 g6)
        | fail)
      refine bodyPost_ret (results_row4 rfl _ w6 (w.heap.size + 1) 26 _ _ rfl R6 Try.underlying26 rfl (by kernel_rfl) _ _ _ rfl rfl rfl) rfl ?_
      rw [HT1.out, HTT.out]
      refine ⟨A2, c2, ?_, ?_, HB.out.grown g6 (by omega) (fun k e => by injection e with e; omega)⟩
      · rw [hl']; rfl
      · rw [hl']; exact own_grown' O.out g6 (own_blk_ne O.out R.out (by decide))
    · obtain ⟨k', rfl⟩ : ∃ k', k = k' + 1 := ⟨k - 1, by omega⟩
      have hst := HS.out
      rw [sticks_step] at hst
      have SC := Lib.hid (l07Stick_any W H N most s A2 c2 w2.heap.size w.heap.size cs' wo hW hW' hH hH' HL'.out HP.out hm hsl X.out O.out)
      have hsl2 := stick_le cs' W H most s
      have hlen := stick_len cs' W H most s
      rw [HL'.out] at hlen
      obtain ⟨r, hr⟩ : ∃ r, stick cs' W H most s = r := ⟨_, rfl⟩
      rw [hr] at hst hsl2 hlen SC
      clear hr
      obtain ⟨s2, b, cs2⟩ := r
      try simp only at hst
      try simp only at hsl2
      try simp only at hlen
      try simp only at SC
      have HST := Lib.hid hst
      have HL2 := Lib.hid hlen
      clear hst hlen
      go_wp2_with fail
      refine SC.out.mono ?_
      rintro e w7 ⟨rfl, ho7, hg7⟩
      try simp only at ho7
      have hz7 := hg7.size
      have O7 := Lib.hid ho7
      have X7 := Lib.hid (X.out.grown hg7 (own_blk_ne O.out X.out (by decide)))
      have R7 := Lib.hid (R.out.grown hg7 (own_blk_ne O.out R.out (by decide)))
      have HB7 := Lib.hid (HB.out.grown hg7 (by omega) (fun k e => by have := (O.out.lt k e).1; omega))
      clear ho7 hg7 SC
      cases b
      · go_wp2
        go_roundw
        case rel => exact ⟨k', s2, n, cs2, by go_num, rfl, by first | rfl | go_num, by omega, hsl2, HL2, O7.out, X7.out, R7.out, HB7.out, by omega, HST⟩
        case measure => first | (simp [intOf]; done) | (simp [intOf]; omega)
      · go_wp2
        go_roundw
        case rel => exact ⟨k', s2, n + 1, cs2, by go_num, rfl, by first | rfl | go_num, by omega, hsl2, HL2, O7.out, X7.out, R7.out, HB7.out, by omega, HST⟩
        case measure => first | (simp [intOf]; done) | (simp [intOf]; omega)

set_option maxRecDepth 100000 in
set_option maxHeartbeats 2000000 in
theorem implMany_no (wd hi count most seed : Int) (A : Option Addr) (n c : Nat) (w : World) (h : (validB wd hi n && inB count 0 512 && inB most 0 512 && inB seed 0 2147483647) = false) :
    Calls Try.prog 15 #[fieldV wd hi A n c, .int .i64 count, .int .i64 most, .int .i64 seed] w (SmRes 0 0 [] 0 0 false w) := by
  obtain ⟨v, ev⟩ : ∃ v, v = (w.alloc (.cells #[.int .i64 wd, .int .i64 hi, .slice A n c] 26)).alloc (.cells #[.int .i64 0, .int .i64 0, .slice none 0 0] 26) := ⟨_, rfl⟩
  have B0 : Hid (Below w.heap.size w v) := by rw [ev]; exact ((Below.refl _ _).alloc (Nat.le_refl _) _).alloc (by simp) _
  have bI : Hid (Blk v w.heap.size 26 #[.int .i64 wd, .int .i64 hi, .slice A n c]) := by rw [ev]; exact (Blk.new w _ _).alloc _
  have bR : Hid (Blk v (w.heap.size + 1) 26 #[.int .i64 0, .int .i64 0, .slice none 0 0]) := by rw [ev]; exact Blk.new2 _ _ _ _
  have hsz0 := B0.out.size
  have hlt0 : w.heap.size + 1 < v.heap.size := bR.out.lt
  have EV := Lib.hid ev
  obtain ⟨p, hp⟩ : ∃ p, validB wd hi n = p := ⟨_, rfl⟩
  obtain ⟨t, ht⟩ : ∃ t, inB count 0 512 = t := ⟨_, rfl⟩
  obtain ⟨q, hq⟩ : ∃ q, inB most 0 512 = q := ⟨_, rfl⟩
  obtain ⟨r, hr⟩ : ∃ r, inB seed 0 2147483647 = r := ⟨_, rfl⟩
  rw [hp, ht, hq, hr] at h
  have HP := Lib.hid hp
  have HT := Lib.hid ht
  have HQ := Lib.hid hq
  have HR := Lib.hid hr
  clear hp hq hr ev ht
  unfold fieldV
  cases p
  · clear h
    go_enter Try.func15, Try.ntmps15
    go_wp2_with fail
    rw [← EV.out]
    refine (ValidField_any wd hi A n c _).mono ?_
    rintro e w1 ⟨rfl, hb1⟩
    rw [HP.out]
    have HB1 := Lib.hid (B0.out.trans (hb1.mono hsz0))
    have R1 := Lib.hid (bR.out.below hb1 bR.out.lt)
    have I1 := Lib.hid (bI.out.below hb1 bI.out.lt)
    have hsz1 := hb1.size
    clear hb1
    go_wp2_with (first
      | (refine wpList_store_blk rfl _ _ _ rfl (w.heap.size + 1) 0 rfl _ rfl [.int .i64 0, .int .i64 0, .slice none 0 0] rfl 26 _ #[.int .i64 0, .int .i64 0, .slice none 0 0] R1.out (by kernel_rfl) (by simp) (by simp [Value.oneCell']) rfl ?_; intro w2 R2 g2)
      | fail)
    refine bodyPost_ret (results_row4 rfl _ w2 (w.heap.size + 1) 26 _ _ rfl R2 Try.underlying26 rfl (by kernel_rfl) _ _ _ rfl rfl rfl) rfl ?_
    exact smRes_no (HB1.out.grown g2 (by omega) (fun k e => by injection e with e; omega))
  · skip
    cases t
    · clear h
      go_enter Try.func15, Try.ntmps15
      go_wp2_with fail
      rw [← EV.out]
      refine (ValidField_any wd hi A n c _).mono ?_
      rintro e w1 ⟨rfl, hb1⟩
      rw [HP.out]
      have HB1 := Lib.hid (B0.out.trans (hb1.mono hsz0))
      have R1 := Lib.hid (bR.out.below hb1 bR.out.lt)
      have I1 := Lib.hid (bI.out.below hb1 bI.out.lt)
      have hsz1 := hb1.size
      clear hb1
      go_wp2_with fail
      refine (isWalk_any _ _).mono ?_
      rintro e w5 ⟨rfl, h5⟩
      obtain rfl := h5.symm
      rw [HT.out]
      go_wp2_with (first
        | (refine wpList_store_blk rfl _ _ _ rfl (w.heap.size + 1) 0 rfl _ rfl [.int .i64 0, .int .i64 0, .slice none 0 0] rfl 26 _ #[.int .i64 0, .int .i64 0, .slice none 0 0] R1.out (by kernel_rfl) (by simp) (by simp [Value.oneCell']) rfl ?_; intro w2 R2 g2)
        | fail)
      refine bodyPost_ret (results_row4 rfl _ w2 (w.heap.size + 1) 26 _ _ rfl R2 Try.underlying26 rfl (by kernel_rfl) _ _ _ rfl rfl rfl) rfl ?_
      exact smRes_no (HB1.out.grown g2 (by omega) (fun k e => by injection e with e; omega))
    · skip
      cases q
      · clear h
        go_enter Try.func15, Try.ntmps15
        go_wp2_with fail
        rw [← EV.out]
        refine (ValidField_any wd hi A n c _).mono ?_
        rintro e w1 ⟨rfl, hb1⟩
        rw [HP.out]
        have HB1 := Lib.hid (B0.out.trans (hb1.mono hsz0))
        have R1 := Lib.hid (bR.out.below hb1 bR.out.lt)
        have I1 := Lib.hid (bI.out.below hb1 bI.out.lt)
        have hsz1 := hb1.size
        clear hb1
        go_wp2_with fail
        refine (isWalk_any _ _).mono ?_
        rintro e w5 ⟨rfl, h5⟩
        obtain rfl := h5.symm
        rw [HT.out]
        go_wp2_with fail
        refine (isWalk_any _ _).mono ?_
        rintro e w5 ⟨rfl, h5⟩
        obtain rfl := h5.symm
        rw [HQ.out]
        go_wp2_with (first
          | (refine wpList_store_blk rfl _ _ _ rfl (w.heap.size + 1) 0 rfl _ rfl [.int .i64 0, .int .i64 0, .slice none 0 0] rfl 26 _ #[.int .i64 0, .int .i64 0, .slice none 0 0] R1.out (by kernel_rfl) (by simp) (by simp [Value.oneCell']) rfl ?_; intro w2 R2 g2)
          | fail)
        refine bodyPost_ret (results_row4 rfl _ w2 (w.heap.size + 1) 26 _ _ rfl R2 Try.underlying26 rfl (by kernel_rfl) _ _ _ rfl rfl rfl) rfl ?_
        exact smRes_no (HB1.out.grown g2 (by omega) (fun k e => by injection e with e; omega))
      · skip
        obtain rfl : r = false := by simpa using h
        clear h
        go_enter Try.func15, Try.ntmps15
        go_wp2_with fail
        rw [← EV.out]
        refine (ValidField_any wd hi A n c _).mono ?_
        rintro e w1 ⟨rfl, hb1⟩
        rw [HP.out]
        have HB1 := Lib.hid (B0.out.trans (hb1.mono hsz0))
        have R1 := Lib.hid (bR.out.below hb1 bR.out.lt)
        have I1 := Lib.hid (bI.out.below hb1 bI.out.lt)
        have hsz1 := hb1.size
        clear hb1
        go_wp2_with fail
        refine (isWalk_any _ _).mono ?_
        rintro e w5 ⟨rfl, h5⟩
        obtain rfl := h5.symm
        rw [HT.out]
        go_wp2_with fail
        refine (isWalk_any _ _).mono ?_
        rintro e w5 ⟨rfl, h5⟩
        obtain rfl := h5.symm
        rw [HQ.out]
        go_wp2_with fail
        refine (isSeed_any _ _).mono ?_
        rintro e w5 ⟨rfl, h5⟩
        obtain rfl := h5.symm
        rw [HR.out]
        go_wp2_with (first
          | (refine wpList_store_blk rfl _ _ _ rfl (w.heap.size + 1) 0 rfl _ rfl [.int .i64 0, .int .i64 0, .slice none 0 0] rfl 26 _ #[.int .i64 0, .int .i64 0, .slice none 0 0] R1.out (by kernel_rfl) (by simp) (by simp [Value.oneCell']) rfl ?_; intro w2 R2 g2)
          | fail)
        refine bodyPost_ret (results_row4 rfl _ w2 (w.heap.size + 1) 26 _ _ rfl R2 Try.underlying26 rfl (by kernel_rfl) _ _ _ rfl rfl rfl) rfl ?_
        exact smRes_no (HB1.out.grown g2 (by omega) (fun k e => by injection e with e; omega))

set_option maxRecDepth 100000 in
set_option maxHeartbeats 4000000 in
theorem implMany_ok (W H N count most seed : Nat) (A : Option Addr) (c : Nat) (cs : List Bool) (w : World) (hW : 1 ≤ W) (hW' : W ≤ 16) (hH : 1 ≤ H) (hH' : H ≤ 16) (hl : cs.length = N) (hP : W * H = N) (h : validB W H N = true)
    (hk : count ≤ 512) (hm : most ≤ 512) (hs : seed ≤ 2147483647) (hA : Rd w w.heap.size 1 A N (cs.map bv)) :
    Calls Try.prog 15 #[fieldV W H A N c, .int .i64 (count : Int), .int .i64 (most : Int), .int .i64 (seed : Int)] w (SmRes W H (sticks W H most count cs seed 0).1 (sticks W H most count cs seed 0).2.1 (sticks W H most count cs seed 0).2.2 true w) := by
  obtain ⟨v, ev⟩ : ∃ v, v = (w.alloc (.cells #[.int .i64 W, .int .i64 H, .slice A N c] 26)).alloc (.cells #[.int .i64 0, .int .i64 0, .slice none 0 0] 26) := ⟨_, rfl⟩
  have B0 : Hid (Below w.heap.size w v) := by rw [ev]; exact ((Below.refl _ _).alloc (Nat.le_refl _) _).alloc (by simp) _
  have bI : Hid (Blk v w.heap.size 26 #[.int .i64 W, .int .i64 H, .slice A N c]) := by rw [ev]; exact (Blk.new w _ _).alloc _
  have bR : Hid (Blk v (w.heap.size + 1) 26 #[.int .i64 0, .int .i64 0, .slice none 0 0]) := by rw [ev]; exact Blk.new2 _ _ _ _
  have hsz0 := B0.out.size
  have hlt0 : w.heap.size + 1 < v.heap.size := bR.out.lt
  have EV := Lib.hid ev
  have HH := Lib.hid h
  have HL := Lib.hid hl
  have HP := Lib.hid hP
  have hN256 : N ≤ 256 := by have := Nat.mul_le_mul hW' hH'; omega
  have hN1 : 1 ≤ N := by rw [← hP]; exact Nat.mul_pos hW hH
  have HT : Hid (inB (count : Int) 0 512 = true) := by unfold Hid inB; simp; omega
  have HQ : Hid (inB (most : Int) 0 512 = true) := by unfold Hid inB; simp; omega
  have HR : Hid (inB (seed : Int) 0 2147483647 = true) := by unfold Hid inB; simp; omega
  clear ev h hl hP
  unfold fieldV
  go_enter Try.func15, Try.ntmps15
  go_wp2_with fail
  rw [← EV.out]
  refine (ValidField_any W H A N c _).mono ?_
  rintro e w1 ⟨rfl, hb1⟩
  rw [HH.out]
  have HB1 := Lib.hid (B0.out.trans (hb1.mono hsz0))
  have R1 := Lib.hid (bR.out.below hb1 bR.out.lt)
  have I1 := Lib.hid (bI.out.below hb1 bI.out.lt)
  have hsz1 := hb1.size
  clear hb1
  go_wp2_with fail
  refine (isWalk_any _ _).mono ?_
  rintro e w5 ⟨rfl, h5⟩
  obtain rfl := h5.symm
  rw [HT.out]
  go_wp2_with fail
  refine (isWalk_any _ _).mono ?_
  rintro e w5 ⟨rfl, h5⟩
  obtain rfl := h5.symm
  rw [HQ.out]
  go_wp2_with fail
  refine (isSeed_any _ _).mono ?_
  rintro e w5 ⟨rfl, h5⟩
  obtain rfl := h5.symm
  rw [HR.out]
  go_wp2_with (first
    | (refine wpList_load_blk rfl _ _ rfl w.heap.size 0 rfl 26 _ I1.out [.int .i64 W, .int .i64 H, .slice A N c] rfl _ Try.underlying26 rfl (by kernel_rfl) ?_)
    | fail)
  refine (copyField_any W H N A c cs _ hN1 hN256 HL.out ((hA.below HB1.out).more (by omega))).mono ?_
  rintro e w2 ⟨A2, c2, rfl, ho2, hb2⟩
  have hsz2 := hb2.size
  have HB2 := Lib.hid (HB1.out.trans (hb2.mono (by omega)))
  have R2 := Lib.hid (R1.out.below hb2 R1.out.lt)
  have O2 := Lib.hid ho2
  clear ho2 hb2
  unfold fieldV
  go_wp2_with (first
    | (refine wpList_store_blk rfl _ _ _ rfl w2.heap.size 0 rfl _ rfl [.int .i64 W, .int .i64 H, .slice A2 N c2] rfl 26 #[.int .i64 0, .int .i64 0, .slice none 0 0] #[.int .i64 W, .int .i64 H, .slice A2 N c2] (Blk.new _ _ _) (by kernel_rfl) (by simp) (by simp [Value.oneCell']) rfl ?_; intro w3 X3 g3)
    | fail)
  have hsz3 := g3.size
  simp only [World.size_alloc] at hsz3
  have HB3 := Lib.hid (below_boxed HB2.out (by omega) g3)
  have R3 := Lib.hid (blk_boxed R2.out g3)
  have O3 := Lib.hid (own_base (base' := w.heap.size) (own_boxed O2.out g3) (by omega))
  have HX3 := Lib.hid X3
  clear X3 g3
  obtain ⟨T, hT⟩ : ∃ T, sticks W H most count cs seed 0 = T := ⟨_, rfl⟩
  have hTl := sticks_len W H most count cs seed 0
  rw [hT] at hTl
  have HT0 := Lib.hid hT
  have HT1 := Lib.hid hT
  have HTL := Lib.hid hTl
  clear hT hTl
  go_loopw [3, 13, 38] (fun ss sn sk wr => ∃ (k s n : Nat) (cs' : List Bool), k ≤ count ∧ sk = .int .i64 k ∧ ss = .int .i64 s ∧ sn = .int .i64 n ∧ n ≤ k ∧ s ≤ 2147483647 ∧ Hid (cs'.length = N) ∧
      wr.ownsRow w.heap.size 4 1 (.slice A2 N c2) N (cs'.map bv) ∧ Blk wr w2.heap.size 26 #[.int .i64 W, .int .i64 H, .slice A2 N c2] ∧ Blk wr (w.heap.size + 1) 26 #[.int .i64 0, .int .i64 0, .slice none 0 0] ∧ Below w.heap.size w wr ∧ w3.heap.size ≤ wr.heap.size ∧ Hid (sticks W H most (count - k) cs' s n = T)) (fun _ _ sk _ => count - (intOf sk).toNat)
  case atStart => exact ⟨0, seed, 0, cs, Nat.zero_le _, rfl, rfl, rfl, by omega, hs, HL, O3.out, HX3.out, R3.out, HB3.out, Nat.le_refl _, by rw [Nat.sub_zero]; exact HT0⟩
  case round =>
    clear O3 HX3 R3 HB3 HT0
    obtain ⟨k, s, n, cs', hkc, rfl, rfl, rfl, hnk, hsl, HL', ho, hx, hr, hb, hz, HS⟩ := hrel
    obtain ⟨wo, hwo⟩ : ∃ x, x = wr := ⟨_, rfl⟩
    subst hwo
    have O := Lib.hid ho
    have X := Lib.hid hx
    have R := Lib.hid hr
    have HB := Lib.hid hb
    clear ho hx hr hb
    by_cases hk0 : k = count
    · obtain rfl : count = k := by omega
      have hT : T = (cs', s, n) := by rw [← HS.out, Nat.sub_self]; rfl
      have HTT := Lib.hid hT
      have hl' := HL'.out
      clear hT
      go_wp2_with (first
        | (refine wpList_load_blk rfl _ _ rfl w2.heap.size 0 rfl 26 _ X.out [.int .i64 W, .int .i64 H, .slice A2 N c2] rfl _ Try.underlying26 rfl (by kernel_rfl) ?_)
        | (refine wpList_store_blk rfl _ _ _ rfl (w.heap.size + 1) 0 rfl _ rfl [.int .i64 W, .int .i64 H, .slice A2 N c2] rfl 26 _ #[.int .i64 W, .int .i64 H, .slice A2 N c2] R.out (by kernel_rfl) (by simp) (by simp [Value.oneCell']) rfl ?_; intro w6 R6 g6)
        | fail)
      refine bodyPost_ret (results_row4 rfl _ w6 (w.heap.size + 1) 26 _ _ rfl R6 Try.underlying26 rfl (by kernel_rfl) _ _ _ rfl rfl rfl) rfl ?_
      rw [HT1.out, HTT.out]
      refine ⟨A2, c2, ?_, ?_, HB.out.grown g6 (by omega) (fun k e => by injection e with e; omega)⟩
      · rw [hl']; rfl
      · rw [hl']; exact own_grown' O.out g6 (own_blk_ne O.out R.out (by decide))
    · have hlt : k < count := by omega
      have hst := HS.out
      rw [show count - k = count - (k + 1) + 1 from by omega, sticks_step] at hst
      have SC := Lib.hid (stick_any W H N most s A2 c2 w.heap.size cs' wo hW hW' hH hH' HL'.out HP.out hm hsl O.out)
      have hsl2 := stick_le cs' W H most s
      have hlen := stick_len cs' W H most s
      rw [HL'.out] at hlen
      obtain ⟨r, hr⟩ : ∃ r, stick cs' W H most s = r := ⟨_, rfl⟩
      rw [hr] at hst hsl2 hlen SC
      clear hr
      obtain ⟨s2, b, cs2⟩ := r
      try simp only at hst
      try simp only at hsl2
      try simp only at hlen
      try simp only at SC
      have HST := Lib.hid hst
      have HL2 := Lib.hid hlen
      clear hst hlen
      go_wp2_with (first
        | (refine wpList_load_blk rfl _ _ rfl w2.heap.size 0 rfl 26 _ X.out [.int .i64 W, .int .i64 H, .slice A2 N c2] rfl _ Try.underlying26 rfl (by kernel_rfl) ?_)
        | fail)
      refine SC.out.mono ?_
      rintro e w7 ⟨rfl, ho7, hg7⟩
      try simp only at ho7
      have hz7 := hg7.size
      have O7 := Lib.hid ho7
      have X7 := Lib.hid (X.out.grown hg7 (own_blk_ne O.out X.out (by decide)))
      have R7 := Lib.hid (R.out.grown hg7 (own_blk_ne O.out R.out (by decide)))
      have HB7 := Lib.hid (HB.out.grown hg7 (by omega) (fun k e => by have := (O.out.lt k e).1; omega))
      clear ho7 hg7 SC
      cases b
      · go_wp2
        go_roundw
        case rel => exact ⟨k + 1, s2, n, cs2, by omega, by go_num, rfl, by first | rfl | go_num, by omega, hsl2, HL2, O7.out, X7.out, R7.out, HB7.out, by omega, HST⟩
        case measure => simp [intOf]; omega
      · go_wp2
        go_roundw
        case rel => exact ⟨k + 1, s2, n + 1, cs2, by omega, by go_num, rfl, by first | rfl | go_num, by omega, hsl2, HL2, O7.out, X7.out, R7.out, HB7.out, by omega, HST⟩
        case measure => simp [intOf]; omega

def okMany (wd hi count most seed : Int) (n : Nat) : Bool := validB wd hi n && inB count 0 512 && inB most 0 512 && inB seed 0 2147483647
theorem okMany_nat {wd hi count most seed : Int} {n : Nat} (h : okMany wd hi count most seed n = true) : validB wd hi n = true ∧ (∃ m : Nat, count = (m : Int) ∧ m ≤ 512) ∧ (∃ m : Nat, most = (m : Int) ∧ m ≤ 512) ∧ (∃ s : Nat, seed = (s : Int) ∧ s ≤ 2147483647) := by
  unfold okMany inB at h
  simp at h
  exact ⟨h.1.1.1, ⟨count.toNat, by omega, by omega⟩, ⟨most.toNat, by omega, by omega⟩, ⟨seed.toNat, by omega, by omega⟩⟩
theorem stickMany_pair (wd hi p0 p1 p2 : Int) (cs : List Bool) : ∃ rw rh C x y ok, C.length ≤ 256 ∧
    (∀ A c w, Rd w w.heap.size 1 A cs.length (cs.map bv) → Calls Try.prog 16 #[fieldV wd hi A cs.length c, .int .i64 p0, .int .i64 p1, .int .i64 p2] w (SmRes rw rh C x y ok w)) ∧
    (∀ A c w, Rd w w.heap.size 1 A cs.length (cs.map bv) → Calls Try.prog 15 #[fieldV wd hi A cs.length c, .int .i64 p0, .int .i64 p1, .int .i64 p2] w (SmRes rw rh C x y ok w)) := by
  cases h : okMany wd hi p0 p1 p2 cs.length
  · exact ⟨0, 0, [], 0, 0, false, by simp, fun A c w _ => specMany_no wd hi p0 p1 p2 A _ c w h, fun A c w _ => implMany_no wd hi p0 p1 p2 A _ c w h⟩
  · obtain ⟨hv, ⟨k, rfl, hk⟩, ⟨m, rfl, hm⟩, ⟨s, rfl, hs⟩⟩ := okMany_nat h
    obtain ⟨W, H, rfl, rfl, h1, h2, h3, h4, h5⟩ := valid_nat hv
    have h6 := Nat.mul_le_mul h2 h4
    exact ⟨W, H, (sticks W H m k cs s 0).1, (sticks W H m k cs s 0).2.1, (sticks W H m k cs s 0).2.2, true, by rw [sticks_len]; omega,
      fun A c w hA => specMany_ok W H cs.length k m s A c cs w h1 h2 h3 h4 rfl h5 hv hk hm hs hA, fun A c w hA => implMany_ok W H cs.length k m s A c cs w h1 h2 h3 h4 rfl h5 hv hk hm hs hA⟩
end Go.Proofs.Ytknonmfffcjonaa
