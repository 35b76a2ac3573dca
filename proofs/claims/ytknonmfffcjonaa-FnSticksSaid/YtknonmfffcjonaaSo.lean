/- Walks: StickOne of the program and of the reference give the same. Condition: none but that the cells can be read. -/
import Derived.Test.YtknonmfffcjonaaSk
import Derived.Test.YtknonmfffcjonaaCp
import Derived.Test.YtknonmfffcjonaaVal
namespace Go.Proofs.Ytknonmfffcjonaa
open Go.RowKit

set_option maxHeartbeats 400000 in
theorem l07Seed_any (s : Int) (w : World) : Calls Try.prog 38 #[.int .i64 s] w fun e w' => e = .returned (.bool (inB s 0 2147483647)) ∧ w' = w := by
  go_enter Try.func38, Try.ntmps38
  go_wp2_with (go_at_call 37; refine (l00In_any _ _ _ _).mono ?_; rintro e w' ⟨rfl, rfl⟩)
  go_ret
  exact ⟨rfl, rfl⟩
set_option maxHeartbeats 400000 in
theorem isSeed_any (s : Int) (w : World) : Calls Try.prog 33 #[.int .i64 s] w fun e w' => e = .returned (.bool (inB s 0 2147483647)) ∧ w' = w := by
  go_enter Try.func33, Try.ntmps33
  go_wp2_with (go_at_call 54; refine (within_any _ _ _ _).mono ?_; rintro e w' ⟨rfl, rfl⟩)
  go_ret
  exact ⟨rfl, rfl⟩
set_option maxHeartbeats 400000 in
theorem isWalk_any (s : Int) (w : World) : Calls Try.prog 32 #[.int .i64 s] w fun e w' => e = .returned (.bool (inB s 0 512)) ∧ w' = w := by
  go_enter Try.func32, Try.ntmps32
  go_wp2_with (go_at_call 54; refine (within_any _ _ _ _).mono ?_; rintro e w' ⟨rfl, rfl⟩)
  go_ret
  exact ⟨rfl, rfl⟩

def zField : Array Value := #[.int .i64 0, .int .i64 0, .slice none 0 0]
/-- What StickOne gives. -/
def StRes (wd hi : Int) (C : List Bool) (x : Int) (b ok : Bool) (w : World) (e : Ending) (w' : World) : Prop :=
  ∃ A c, e = .returned (.tuple #[fieldV wd hi A C.length c, .int .i64 x, .bool b, .bool ok]) ∧ w'.ownsRow w.heap.size 4 1 (.slice A C.length c) C.length (C.map bv) ∧ Below w.heap.size w w'
theorem stRes_no {w w' : World} (hb : Below w.heap.size w w') : StRes 0 0 [] 0 false false w (.returned (.tuple #[.agg #[.int .i64 0, .int .i64 0, .slice none 0 0], .int .i64 0, .bool false, .bool false])) w' :=
  ⟨none, 0, rfl, World.ownsRow_nil _ _ _ _, hb⟩

set_option maxRecDepth 100000 in
set_option maxHeartbeats 1000000 in
theorem implOne_no (wd hi most seed : Int) (A : Option Addr) (n c : Nat) (w : World) (h : (validB wd hi n && inB most 0 512 && inB seed 0 2147483647) = false) :
    Calls Try.prog 19 #[fieldV wd hi A n c, .int .i64 most, .int .i64 seed] w (StRes 0 0 [] 0 false false w) := by
  obtain ⟨v, ev⟩ : ∃ v, v = (w.alloc (.cells #[.int .i64 wd, .int .i64 hi, .slice A n c] 26)).alloc (.cells #[.int .i64 0, .int .i64 0, .slice none 0 0] 26) := ⟨_, rfl⟩
  have B0 : Hid (Below w.heap.size w v) := by rw [ev]; exact ((Below.refl _ _).alloc (Nat.le_refl _) _).alloc (by simp) _
  have bI : Hid (Blk v w.heap.size 26 #[.int .i64 wd, .int .i64 hi, .slice A n c]) := by rw [ev]; exact (Blk.new w _ _).alloc _
  have bR : Hid (Blk v (w.heap.size + 1) 26 #[.int .i64 0, .int .i64 0, .slice none 0 0]) := by rw [ev]; exact Blk.new2 _ _ _ _
  have hsz0 := B0.out.size
  have EV := Lib.hid ev
  obtain ⟨p, hp⟩ : ∃ p, validB wd hi n = p := ⟨_, rfl⟩
  obtain ⟨q, hq⟩ : ∃ q, inB most 0 512 = q := ⟨_, rfl⟩
  obtain ⟨r, hr⟩ : ∃ r, inB seed 0 2147483647 = r := ⟨_, rfl⟩
  rw [hp, hq, hr] at h
  have HP := Lib.hid hp
  have HQ := Lib.hid hq
  have HR := Lib.hid hr
  clear hp hq hr ev
  unfold fieldV
  cases p
  · clear h
    go_enter Try.func19, Try.ntmps19
    go_wp2_with fail
    rw [← EV.out]
    refine (ValidField_any wd hi A n c _).mono ?_
    rintro e w1 ⟨rfl, hb1⟩
    rw [HP.out]
    have HB := Lib.hid (B0.out.trans (hb1.mono hsz0))
    have R1 := Lib.hid (bR.out.below hb1 bR.out.lt)
    have hsz := HB.out.size
    clear hb1
    go_wp2_with (first
      | (refine wpList_store_blk rfl _ _ _ rfl (w.heap.size + 1) 0 rfl _ rfl [.int .i64 0, .int .i64 0, .slice none 0 0] rfl 26 _ #[.int .i64 0, .int .i64 0, .slice none 0 0] R1.out (by kernel_rfl) (by simp) (by simp [Value.oneCell']) rfl ?_; intro w2 R2 g2)
      | fail)
    refine bodyPost_ret (results_row4 rfl _ w2 (w.heap.size + 1) 26 _ _ rfl R2 Try.underlying26 rfl (by kernel_rfl) _ _ _ rfl rfl rfl) rfl ?_
    exact stRes_no (HB.out.grown g2 hsz (fun k e => by injection e with e; omega))
  · cases q
    · clear h
      go_enter Try.func19, Try.ntmps19
      go_wp2_with fail
      rw [← EV.out]
      refine (ValidField_any wd hi A n c _).mono ?_
      rintro e w1 ⟨rfl, hb1⟩
      rw [HP.out]
      have HB := Lib.hid (B0.out.trans (hb1.mono hsz0))
      have R1 := Lib.hid (bR.out.below hb1 bR.out.lt)
      have hsz := HB.out.size
      clear hb1
      go_wp2_with fail
      refine (isWalk_any _ _).mono ?_
      rintro e w5 ⟨rfl, h5⟩
      obtain rfl := h5.symm
      rw [HQ.out]
      go_wp2_with (first
        | (refine wpList_store_blk rfl _ _ _ rfl (w.heap.size + 1) 0 rfl _ rfl [.int .i64 0, .int .i64 0, .slice none 0 0] rfl 26 _ #[.int .i64 0, .int .i64 0, .slice none 0 0] R1.out (by kernel_rfl) (by simp) (by simp [Value.oneCell']) rfl ?_; intro w2 R2 g2)
        | fail)
      refine bodyPost_ret (results_row4 rfl _ w2 (w.heap.size + 1) 26 _ _ rfl R2 Try.underlying26 rfl (by kernel_rfl) _ _ _ rfl rfl rfl) rfl ?_
      exact stRes_no (HB.out.grown g2 hsz (fun k e => by injection e with e; omega))
    · obtain rfl : r = false := by simpa using h
      clear h
      go_enter Try.func19, Try.ntmps19
      go_wp2_with fail
      rw [← EV.out]
      refine (ValidField_any wd hi A n c _).mono ?_
      rintro e w1 ⟨rfl, hb1⟩
      rw [HP.out]
      have HB := Lib.hid (B0.out.trans (hb1.mono hsz0))
      have R1 := Lib.hid (bR.out.below hb1 bR.out.lt)
      have hsz := HB.out.size
      clear hb1
      go_wp2_with fail
      refine (isWalk_any _ _).mono ?_
      rintro e w5 ⟨rfl, h5⟩
      obtain rfl := h5.symm
      rw [HQ.out]
      go_wp2_with fail
      refine (isSeed_any _ _).mono ?_
      rintro e w5 ⟨rfl, h5⟩
      obtain rfl := h5.symm
      rw [HR.out]
      go_wp2_with (first
        | (refine wpList_store_blk rfl _ _ _ rfl (w.heap.size + 1) 0 rfl _ rfl [.int .i64 0, .int .i64 0, .slice none 0 0] rfl 26 _ #[.int .i64 0, .int .i64 0, .slice none 0 0] R1.out (by kernel_rfl) (by simp) (by simp [Value.oneCell']) rfl ?_; intro w2 R2 g2)
        | fail)
      refine bodyPost_ret (results_row4 rfl _ w2 (w.heap.size + 1) 26 _ _ rfl R2 Try.underlying26 rfl (by kernel_rfl) _ _ _ rfl rfl rfl) rfl ?_
      exact stRes_no (HB.out.grown g2 hsz (fun k e => by injection e with e; omega))

set_option maxRecDepth 100000 in
set_option maxHeartbeats 1000000 in
theorem implOne_ok (W H N most seed : Nat) (A : Option Addr) (c : Nat) (cs : List Bool) (w : World) (hW : 1 ≤ W) (hW' : W ≤ 16) (hH : 1 ≤ H) (hH' : H ≤ 16) (hl : cs.length = N) (hP : W * H = N) (h : validB W H N = true)
    (hm : most ≤ 512) (hs : seed ≤ 2147483647) (hA : Rd w w.heap.size 1 A N (cs.map bv)) :
    Calls Try.prog 19 #[fieldV W H A N c, .int .i64 (most : Int), .int .i64 (seed : Int)] w (StRes W H (stick cs W H most seed).2.2 (stick cs W H most seed).1 (stick cs W H most seed).2.1 true w) := by
  obtain ⟨v, ev⟩ : ∃ v, v = (w.alloc (.cells #[.int .i64 W, .int .i64 H, .slice A N c] 26)).alloc (.cells #[.int .i64 0, .int .i64 0, .slice none 0 0] 26) := ⟨_, rfl⟩
  have B0 : Hid (Below w.heap.size w v) := by rw [ev]; exact ((Below.refl _ _).alloc (Nat.le_refl _) _).alloc (by simp) _
  have bI : Hid (Blk v w.heap.size 26 #[.int .i64 W, .int .i64 H, .slice A N c]) := by rw [ev]; exact (Blk.new w _ _).alloc _
  have bR : Hid (Blk v (w.heap.size + 1) 26 #[.int .i64 0, .int .i64 0, .slice none 0 0]) := by rw [ev]; exact Blk.new2 _ _ _ _
  have hsz0 := B0.out.size
  have hlt0 : w.heap.size + 1 < v.heap.size := bR.out.lt
  have EV := Lib.hid ev
  have HH := Lib.hid h
  have HL := Lib.hid hl
  have HP := Lib.hid hP
  have hN256 : N ≤ 256 := by have := Nat.mul_le_mul hW' hH'; omega
  have hN1 : 1 ≤ N := by rw [← hP]; exact Nat.mul_pos hW hH
  have HQ : Hid (inB (most : Int) 0 512 = true) := by unfold Hid inB; simp; omega
  have HR : Hid (inB (seed : Int) 0 2147483647 = true) := by unfold Hid inB; simp; omega
  clear ev h hl hP
  unfold fieldV
  go_enter Try.func19, Try.ntmps19
  go_wp2_with fail
  rw [← EV.out]
  refine (ValidField_any W H A N c _).mono ?_
  rintro e w1 ⟨rfl, hb1⟩
  rw [HH.out]
  have HB1 := Lib.hid (B0.out.trans (hb1.mono hsz0))
  have R1 := Lib.hid (bR.out.below hb1 bR.out.lt)
  have I1 := Lib.hid (bI.out.below hb1 bI.out.lt)
  have hsz1 := hb1.size
  clear hb1
  go_wp2_with fail
  refine (isWalk_any _ _).mono ?_
  rintro e w5 ⟨rfl, h5⟩
  obtain rfl := h5.symm
  rw [HQ.out]
  go_wp2_with fail
  refine (isSeed_any _ _).mono ?_
  rintro e w5 ⟨rfl, h5⟩
  obtain rfl := h5.symm
  rw [HR.out]
  go_wp2_with (first
    | (refine wpList_load_blk rfl _ _ rfl w.heap.size 0 rfl 26 _ I1.out [.int .i64 W, .int .i64 H, .slice A N c] rfl _ Try.underlying26 rfl (by kernel_rfl) ?_)
    | fail)
  refine (copyField_any W H N A c cs _ hN1 hN256 HL.out ((hA.below HB1.out).more (by omega))).mono ?_
  rintro e w2 ⟨A2, c2, rfl, ho2, hb2⟩
  have hsz2 := hb2.size
  have HB2 := Lib.hid (HB1.out.trans (hb2.mono (by omega)))
  have R2 := Lib.hid (R1.out.below hb2 R1.out.lt)
  have O2 := Lib.hid ho2
  clear ho2 hb2
  unfold fieldV
  go_wp2_with (first
    | (refine wpList_store_blk rfl _ _ _ rfl w2.heap.size 0 rfl _ rfl [.int .i64 W, .int .i64 H, .slice A2 N c2] rfl 26 #[.int .i64 0, .int .i64 0, .slice none 0 0] #[.int .i64 W, .int .i64 H, .slice A2 N c2] (Blk.new _ _ _) (by kernel_rfl) (by simp) (by simp [Value.oneCell']) rfl ?_; intro w3 X3 g3)
    | (refine wpList_load_blk rfl _ _ rfl w2.heap.size 0 rfl 26 _ X3 [.int .i64 W, .int .i64 H, .slice A2 N c2] rfl _ Try.underlying26 rfl (by kernel_rfl) ?_)
    | fail)
  have hsz3 := g3.size
  simp only [World.size_alloc] at hsz3
  have HB3 := Lib.hid (below_boxed HB2.out (by omega) g3)
  have R3 := Lib.hid (blk_boxed R2.out g3)
  have O3 := Lib.hid (own_base (base' := w.heap.size) (own_boxed O2.out g3) (by omega))
  have HX3 := Lib.hid X3
  clear X3 g3
  refine (stick_any W H N most seed A2 c2 w.heap.size cs w3 hW hW' hH hH' HL.out HP.out hm hs O3.out).mono ?_
  rintro e w4 ⟨rfl, ho4, hg4⟩
  have hsz4 := hg4.size
  have HB4 := Lib.hid (HB3.out.grown hg4 (by omega) (fun k e => by have := (O3.out.lt k e).1; omega))
  have R4 := Lib.hid (R3.out.grown hg4 (own_blk_ne O3.out R3.out (by decide)))
  have X4 := Lib.hid (HX3.out.grown hg4 (own_blk_ne O3.out HX3.out (by decide)))
  have O4 := Lib.hid ho4
  have hlen := stick_len cs W H most seed
  rw [HL.out] at hlen
  generalize stick cs W H most seed = r at *
  clear ho4 hg4
  go_wp2_with (first
    | (refine wpList_load_blk rfl _ _ rfl w2.heap.size 0 rfl 26 _ X4.out [.int .i64 W, .int .i64 H, .slice A2 N c2] rfl _ Try.underlying26 rfl (by kernel_rfl) ?_)
    | (refine wpList_store_blk rfl _ _ _ rfl (w.heap.size + 1) 0 rfl _ rfl [.int .i64 W, .int .i64 H, .slice A2 N c2] rfl 26 _ #[.int .i64 W, .int .i64 H, .slice A2 N c2] R4.out (by kernel_rfl) (by simp) (by simp [Value.oneCell']) rfl ?_; intro w6 R6 g6)
    | fail)
  refine bodyPost_ret (results_row4 rfl _ w6 (w.heap.size + 1) 26 _ _ rfl R6 Try.underlying26 rfl (by kernel_rfl) _ _ _ rfl rfl rfl) rfl ?_
  refine ⟨A2, c2, ?_, ?_, HB4.out.grown g6 (by omega) (fun k e => by injection e with e; omega)⟩
  · rw [hlen]; rfl
  · rw [hlen]; exact own_grown' O4.out g6 (own_blk_ne O4.out R4.out (by decide))

/-- StickOne's test of its arguments. -/
def okOne (wd hi most seed : Int) (n : Nat) : Bool := validB wd hi n && inB most 0 512 && inB seed 0 2147483647
theorem okOne_nat {wd hi most seed : Int} {n : Nat} (h : okOne wd hi most seed n = true) : validB wd hi n = true ∧ (∃ m : Nat, most = (m : Int) ∧ m ≤ 512) ∧ (∃ s : Nat, seed = (s : Int) ∧ s ≤ 2147483647) := by
  unfold okOne inB at h
  simp at h
  exact ⟨h.1.1, ⟨most.toNat, by omega, by omega⟩, ⟨seed.toNat, by omega, by omega⟩⟩
end Go.Proofs.Ytknonmfffcjonaa
