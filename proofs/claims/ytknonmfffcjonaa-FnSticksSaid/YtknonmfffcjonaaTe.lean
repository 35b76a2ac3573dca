/- Walk: the law on walkers that stick and on edges that grow. Conditions: at most 2^63 bytes. -/
import Derived.Test.YtknonmfffcjonaaTd
import Derived.Test.YtknonmfffcjonaaTb
import Derived.Test.YtknonmfffcjonaaKe
import Derived.Test.YtknonmfffcjonaaGt
import Derived.Test.YtknonmfffcjonaaHk
namespace Go.Proofs.Ytknonmfffcjonaa
open Go.RowKit

set_option maxRecDepth 100000 in
set_option maxHeartbeats 400000 in
theorem lawSt_long (A1 A2 : Option Addr) (n1 c1 n2 c2 : Nat) (w : World) (hn1 : n1 ≤ maxLen) (hn2 : n2 ≤ maxLen) (hbig : ¬ (n1 ≤ 1048576 ∧ n2 ≤ 1048576)) :
    Calls Try.prog 4 #[.slice A1 n1 c1, .slice A2 n2 c2] w fun e w' => e = .returned (.bool true) ∧ Below w.heap.size w w' := by
  have e : (decide (1048576 < n1) || decide (1048576 < n2)) = true := by
    by_cases h : n1 ≤ 1048576
    · have : 1048576 < n2 := by omega
      simp [this]
    · have : 1048576 < n1 := by omega
      simp [this]
  have LC := b10Long_any A1 A2 n1 c1 n2 c2 w hn1 hn2
  rw [e] at LC
  have LCH := Lib.hid LC
  clear LC e
  go_enter Try.func4, Try.ntmps4
  go_wp2_with fail
  refine LCH.out.mono ?_
  rintro e w1 ⟨rfl, rfl⟩
  go_wp2
  go_ret
  exact ⟨rfl, Below.refl _ _⟩
set_option maxRecDepth 100000 in
set_option maxHeartbeats 16000000 in
theorem lawSt_any (A1 A2 : Option Addr) (n1 c1 n2 c2 : Nat) (bs bs2 : List Nat) (w : World) (hn1 : n1 ≤ 1048576) (hn2 : n2 ≤ 1048576) (hc1 : n1 ≤ c1) (hc2 : n2 ≤ c2) (hbs : ∀ x ∈ bs, x < 256) (hbs2 : ∀ x ∈ bs2, x < 256)
    (hA : Rd w w.heap.size 1 A1 n1 (bs.map u8v)) (hA2 : Rd w w.heap.size 1 A2 n2 (bs2.map u8v)) :
    Calls Try.prog 4 #[.slice A1 n1 c1, .slice A2 n2 c2] w fun e w' => e = .returned (.bool true) ∧ Below w.heap.size w w' := by
  have LC := b10Long_any A1 A2 n1 c1 n2 c2 w (by unfold maxLen; omega) (by unfold maxLen; omega)
  rw [show (decide (1048576 < n1) || decide (1048576 < n2)) = false by simp; omega] at LC
  have LCH := Lib.hid LC
  have FC := Lib.hid (B10Field_any n1 c1 A1 bs w hn1 hc1 hbs hA)
  have hl2 : bs2.length = n2 := by have := hA2.len; simpa using this
  obtain ⟨cnt, hcnt, BA⟩ := b10At_val A2 n2 c2 0 12 bs2 hl2 hn2 (by omega) (by omega) (by omega) hbs2
  obtain ⟨add, hadd, BB⟩ := b10At_val A2 n2 c2 1 5 bs2 hl2 hn2 (by omega) (by omega) (by omega) hbs2
  have BAH := Lib.hid BA
  have BBH := Lib.hid BB
  have HB2 := Lib.hid hbs2
  have HA2 := Lib.hid hA2
  clear LC hA hbs BA BB hbs2 hl2 hA2
  go_enter Try.func4, Try.ntmps4
  go_wp2_with fail
  refine LCH.out.mono ?_
  rintro e w0 ⟨rfl, hw0⟩
  obtain rfl := hw0.symm
  go_wp2_with fail
  refine FC.out.mono ?_
  rintro e w1 ⟨W, H, cs, Ao, co, rfl, h1, h2, h3, h4, hcl, ho, hb⟩
  obtain ⟨N, eN⟩ : ∃ N, W * H = N := ⟨_, rfl⟩
  rw [eN] at hcl
  rw [hcl] at ho ⊢
  have hN1 : 1 ≤ N := by rw [← eN]; exact Nat.le_trans h1 (Nat.le_mul_of_pos_right W h3)
  have hN36 : N ≤ 36 := by rw [← eN]; exact Nat.mul_le_mul h2 h4
  have hval : validB (W : Int) (H : Int) N = true := by
    unfold validB
    have : (W : Int) * (H : Int) = (N : Int) := by rw [← eN]; simp
    simp only [decide_eq_true_eq]
    omega
  have S1 : Hid (Held [.low w, .rd w.heap.size 1 A2 n2 (bs2.map u8v), .own w.heap.size 4 1 (.slice Ao N co) N (cs.map bv)] w1) := by
    have h0 : Held [.low w, .rd w.heap.size 1 A2 n2 (bs2.map u8v)] w := Held.put (Held.put (Held.nil _) (Held.of_rd HA2.out)) ⟨Nat.le_refl _, Below.refl _ _⟩
    exact (h0.below hb).add ho
  have HV := Lib.hid hval
  have HCL := Lib.hid hcl
  have EN := Lib.hid eN
  unfold fieldV
  clear ho hb hval hcl eN FC LCH
  go_wp2_with (first
    | (refine wpList_store_blk rfl _ _ _ rfl w1.heap.size 0 rfl _ rfl [.int .i64 (W : Int), .int .i64 (H : Int), .slice Ao N co] rfl 26 #[.int .i64 0, .int .i64 0, .slice none 0 0] #[.int .i64 (W : Int), .int .i64 (H : Int), .slice Ao N co] (Blk.new _ _ _) (by kernel_rfl) (by simp) (by simp [Value.oneCell']) rfl ?_; intro w2 X2 g2)
    | fail)
  have S2 := Lib.hid ((S1.out.boxed g2).add (f := .blk w1.heap.size 26 #[.int .i64 (W : Int), .int .i64 (H : Int), .slice Ao N co]) X2)
  clear X2 g2 S1
  refine (B10Seed_any n2 c2 A2 bs2 _ hn2 hc2 HB2.out (S2.out.rd 1 rfl)).mono ?_
  rintro e w3 ⟨seed, rfl, hseed, hb⟩
  have S3 := Lib.hid (S2.out.below hb)
  clear hb S2
  go_wp2_with fail
  refine (BAH.out _ _ (S3.out.rd 1 rfl)).mono ?_
  rintro e w5 ⟨rfl, h5⟩
  obtain rfl := h5.symm
  obtain ⟨C, x, y, hT⟩ : ∃ C x y, sticks W H 40 cnt cs seed 0 = (C, x, y) := ⟨_, _, _, rfl⟩
  have hCl : C.length = N := by have := sticks_len W H 40 cnt cs seed 0; rw [hT] at this; rw [← HCL.out]; exact this
  have hxs : x ≤ 2147483647 := by have := sticks_le W H 40 cnt cs seed 0 hseed; rw [hT] at this; exact this
  have hmore := sticks_more (most := 40) h1 h3 EN.out cnt cs seed 0 HCL.out
  rw [hT] at hmore
  obtain ⟨m1, m2, m3, m4⟩ := hmore
  simp only at m1 m2 m4
  have hfl := fullN_le cs N
  have hCy : fullN C N = fullN cs N + y := by omega
  have MC : Hid (∀ w', Rd w' w'.heap.size 1 Ao N (cs.map bv) → Calls Try.prog 15 #[.agg #[.int .i64 (W : Int), .int .i64 (H : Int), .slice Ao N co], .int .i64 (cnt : Int), .int .i64 40, .int .i64 (seed : Int)] w' (SmRes W H C x y true w')) := fun w' hr => by
    have := implMany_ok W H N cnt 40 seed Ao co cs w' h1 (by omega) h3 (by omega) HCL.out EN.out HV.out (by omega) (by omega) hseed hr
    rw [hT] at this
    exact this
  have NC : Hid (∀ w', Rd w' w'.heap.size 1 Ao N (cs.map bv) → Calls Try.prog 16 #[.agg #[.int .i64 (W : Int), .int .i64 (H : Int), .slice Ao N co], .int .i64 (cnt : Int), .int .i64 40, .int .i64 (seed : Int)] w' (SmRes W H C x y true w')) := fun w' hr => by
    have := specMany_ok W H N cnt 40 seed Ao co cs w' h1 (by omega) h3 (by omega) HCL.out EN.out HV.out (by omega) (by omega) hseed hr
    rw [hT] at this
    exact this
  have CC : Hid (∀ (A : Option Addr) (c : Nat) (xs : List Bool) (w' : World), xs.length = N → Rd w' w'.heap.size 1 A N (xs.map bv) → Calls Try.prog 12 #[.agg #[.int .i64 (W : Int), .int .i64 (H : Int), .slice A N c]] w' fun e w'' => e = .returned (.tuple #[.int .i64 ((fullN xs N : Nat) : Int), .bool true]) ∧ Below w'.heap.size w' w'') := fun A c xs w' hl hr =>
    CountCells_any W H N A c xs w' h1 (by omega) h3 (by omega) hl EN.out HV.out hr
  have HTT := Lib.hid hT
  have HCyH := Lib.hid hCy
  have HCC := Lib.hid hCl
  have HSUB := Lib.hid m2
  obtain ⟨nf, enf⟩ : ∃ nf, fullN cs N = nf := ⟨_, rfl⟩
  have HNF := Lib.hid enf
  rw [enf] at hfl HCyH
  clear hT m1 m2 m3 hCy hCl enf BAH
  go_wp2_with (first
    | (refine wpList_load_blk rfl _ _ rfl w1.heap.size 0 rfl 26 _ (S3.out.blk 3 rfl) [.int .i64 (W : Int), .int .i64 (H : Int), .slice Ao N co] rfl _ Try.underlying26 rfl (by kernel_rfl) ?_)
    | fail)
  refine (MC.out _ (Rd.own (S3.out.own 2 rfl))).mono ?_
  rintro e w4 ⟨A4, c4, rfl, ho, hb⟩
  rw [HCC.out] at ho ⊢
  have S4 := Lib.hid ((S3.out.below hb).add (f := .own w3.heap.size 4 1 (.slice A4 N c4) N (C.map bv)) ho)
  unfold fieldV
  clear ho hb S3 MC
  go_wp2_with (first
    | (refine wpList_store_blk rfl _ _ _ rfl w4.heap.size 0 rfl _ rfl [.int .i64 (W : Int), .int .i64 (H : Int), .slice A4 N c4] rfl 26 #[.int .i64 0, .int .i64 0, .slice none 0 0] #[.int .i64 (W : Int), .int .i64 (H : Int), .slice A4 N c4] (Blk.new _ _ _) (by kernel_rfl) (by simp) (by simp [Value.oneCell']) rfl ?_; intro w5 X5 g5)
    | (refine wpList_load_blk rfl _ _ rfl w1.heap.size 0 rfl 26 _ ((S4.out.boxed g5).blk 3 rfl) [.int .i64 (W : Int), .int .i64 (H : Int), .slice Ao N co] rfl _ Try.underlying26 rfl (by kernel_rfl) ?_)
    | fail)
  have S5 := Lib.hid ((S4.out.boxed g5).add (f := .blk w4.heap.size 26 #[.int .i64 (W : Int), .int .i64 (H : Int), .slice A4 N c4]) X5)
  clear X5 g5 S4
  refine (NC.out _ (Rd.own (S5.out.own 2 rfl))).mono ?_
  rintro e w6 ⟨A6, c6, rfl, ho, hb⟩
  rw [HCC.out] at ho ⊢
  have S6 := Lib.hid ((S5.out.below hb).add (f := .own w5.heap.size 4 1 (.slice A6 N c6) N (C.map bv)) ho)
  unfold fieldV
  clear ho hb S5 NC
  go_wp2_with (first
    | (refine wpList_store_blk rfl _ _ _ rfl w6.heap.size 0 rfl _ rfl [.int .i64 (W : Int), .int .i64 (H : Int), .slice A6 N c6] rfl 26 #[.int .i64 0, .int .i64 0, .slice none 0 0] #[.int .i64 (W : Int), .int .i64 (H : Int), .slice A6 N c6] (Blk.new _ _ _) (by kernel_rfl) (by simp) (by simp [Value.oneCell']) rfl ?_; intro w7 X7 g7)
    | (refine wpList_load_blk rfl _ _ rfl w1.heap.size 0 rfl 26 _ ((S6.out.boxed g7).blk 3 rfl) [.int .i64 (W : Int), .int .i64 (H : Int), .slice Ao N co] rfl _ Try.underlying26 rfl (by kernel_rfl) ?_)
    | fail)
  have S7 := Lib.hid ((S6.out.boxed g7).add (f := .blk w6.heap.size 26 #[.int .i64 (W : Int), .int .i64 (H : Int), .slice A6 N c6]) X7)
  clear X7 g7 S6
  refine (CC.out Ao co cs _ HCL.out (Rd.own (S7.out.own 2 rfl))).mono ?_
  rintro e w8 ⟨rfl, hb⟩
  have S8 := Lib.hid (S7.out.below hb)
  rw [HNF.out]
  clear hb S7
  go_wp2_with (first
    | (refine wpList_load_blk rfl _ _ rfl w4.heap.size 0 rfl 26 _ (S8.out.blk 5 rfl) [.int .i64 (W : Int), .int .i64 (H : Int), .slice A4 N c4] rfl _ Try.underlying26 rfl (by kernel_rfl) ?_)
    | fail)
  refine (CC.out A4 c4 C _ HCC.out (Rd.own (S8.out.own 4 rfl))).mono ?_
  rintro e w9 ⟨rfl, hb⟩
  have S9 := Lib.hid (S8.out.below hb)
  rw [HCyH.out]
  have k0 := (S9.out.blk 5 rfl).cell 0
  have k1 := (S9.out.blk 5 rfl).cell 1
  have k2 := (S9.out.blk 5 rfl).cell 2
  have k3 := (S9.out.blk 7 rfl).cell 0
  have k4 := (S9.out.blk 7 rfl).cell 1
  have k5 := (S9.out.blk 7 rfl).cell 2
  clear hb S8
  have SC := Lib.hid (specSame_same W H A4 A6 N c4 c6 _ C w9 (by unfold maxLen; omega) (Nat.le_refl _) (Rd.own (S9.out.own 4 rfl)) (Rd.own (S9.out.own 6 rfl)))
  unfold fieldV at SC
  have hyc : (y : Int) ≤ (cnt : Int) := by omega
  go_wp2_with fail
  refine SC.out.mono ?_
  rintro e w10 ⟨rfl, hb⟩
  have S10 := Lib.hid (S9.out.below hb)
  have j0 := (S10.out.blk 5 rfl).cell 0
  have j1 := (S10.out.blk 5 rfl).cell 1
  have j2 := (S10.out.blk 5 rfl).cell 2
  have VC := Lib.hid (ValidField_any W H A4 N c4 w10)
  unfold fieldV at VC
  rw [HV.out] at VC
  clear hb S9 SC k0 k1 k2 k3 k4 k5
  go_wp2_with fail
  refine VC.out.mono ?_
  rintro e w11 ⟨rfl, hb⟩
  have S11 := Lib.hid (S10.out.below hb)
  clear hb S10 VC j0 j1 j2
  go_wp2_with (first
    | (refine wpList_load_blk rfl _ _ rfl w1.heap.size 0 rfl 26 _ (S11.out.blk 3 rfl) [.int .i64 (W : Int), .int .i64 (H : Int), .slice Ao N co] rfl _ Try.underlying26 rfl (by kernel_rfl) ?_)
    | (refine wpList_store_blk rfl _ _ _ rfl w11.heap.size 0 rfl _ rfl [.int .i64 (W : Int), .int .i64 (H : Int), .slice Ao N co] rfl 26 #[.int .i64 0, .int .i64 0, .slice none 0 0] #[.int .i64 (W : Int), .int .i64 (H : Int), .slice Ao N co] (Blk.new _ _ _) (by kernel_rfl) (by simp) (by simp [Value.oneCell']) rfl ?_; intro w12 X12 g12)
    | fail)
  have S12 := Lib.hid (S11.out.boxed g12)
  have AP := Lib.hid S11.out.apart
  have X12' := Lib.hid X12
  clear X12 g12 S11
  go_loopw [21, 22, 23] (fun ss sn sk wr => ∃ (k at_ n : Nat) (cs' : List Bool) (base : Nat) (A' : Option Addr) (c' : Nat), sk = .int .i64 (k : Int) ∧ ss = .int .i64 (at_ : Int) ∧ sn = .int .i64 (n : Int) ∧ k ≤ cnt ∧ n ≤ k ∧ at_ ≤ 2147483647 ∧ Hid (cs'.length = N) ∧
      Hid (sticks W H 40 k cs seed 0 = (cs', at_, n)) ∧ wr.ownsRow base 4 1 (.slice A' N c') N (cs'.map bv) ∧ Blk wr w11.heap.size 26 #[.int .i64 (W : Int), .int .i64 (H : Int), .slice A' N c'] ∧ Held [.low w, .rd w.heap.size 1 A2 n2 (bs2.map u8v), .own w.heap.size 4 1 (.slice Ao N co) N (cs.map bv), .blk w1.heap.size 26 #[.int .i64 (W : Int), .int .i64 (H : Int), .slice Ao N co], .own w3.heap.size 4 1 (.slice A4 N c4) N (C.map bv), .blk w4.heap.size 26 #[.int .i64 (W : Int), .int .i64 (H : Int), .slice A4 N c4], .own w5.heap.size 4 1 (.slice A6 N c6) N (C.map bv), .blk w6.heap.size 26 #[.int .i64 (W : Int), .int .i64 (H : Int), .slice A6 N c6]] wr) (fun _ _ sk _ => cnt - (intOf sk).toNat)
  case atStart => exact ⟨0, seed, 0, cs, w.heap.size, Ao, co, rfl, rfl, rfl, by omega, by omega, hseed, HCL, rfl, S12.out.own 2 rfl, X12'.out, S12.out⟩
  case round =>
    clear S12 X12'
    obtain ⟨k, at_, n, cs', base, A', c', rfl, rfl, rfl, hk, hn, hat, HL', HS, ho, hx, hf⟩ := hrel
    have O := Lib.hid ho
    have X := Lib.hid hx
    have S := Lib.hid hf
    clear ho hx hf
    by_cases hkc : k < cnt
    · have hki : (k : Int) < (cnt : Int) := by omega
      have OC : Hid (Calls Try.prog 19 #[.agg #[.int .i64 (W : Int), .int .i64 (H : Int), .slice A' N c'], .int .i64 40, .int .i64 (at_ : Int)] wr (StRes W H (stick cs' W H 40 at_).2.2 (stick cs' W H 40 at_).1 (stick cs' W H 40 at_).2.1 true wr)) :=
        implOne_ok W H N 40 at_ A' c' cs' wr h1 (by omega) h3 (by omega) HL'.out EN.out HV.out (by omega) hat (Rd.own O.out)
      have HS2 := sticks_snoc W H 40 k cs seed 0
      rw [HS.out] at HS2
      have hl2 := stick_len cs' W H 40 at_
      have hs2 := stick_le cs' W H 40 at_
      rw [HL'.out] at hl2
      obtain ⟨s2, b, cs2, hr⟩ : ∃ s2 b cs2, stick cs' W H 40 at_ = (s2, b, cs2) := ⟨_, _, _, rfl⟩
      simp only [hr] at HS2 hl2 hs2 OC
      have HS3 := Lib.hid HS2
      have HL2 := Lib.hid hl2
      clear HS2 hl2 hr
      go_wp2_with (first
        | (refine wpList_load_blk rfl _ _ rfl w11.heap.size 0 rfl 26 _ X.out [.int .i64 (W : Int), .int .i64 (H : Int), .slice A' N c'] rfl _ Try.underlying26 rfl (by kernel_rfl) ?_)
        | fail)
      refine OC.out.mono ?_
      rintro e w13 ⟨A13, c13, rfl, ho13, hb⟩
      rw [HL2.out] at ho13 ⊢
      have O13 := Lib.hid ho13
      have X13 := Lib.hid (X.out.below hb X.out.lt)
      have S13 := Lib.hid (S.out.below hb)
      unfold fieldV
      clear ho13 hb OC O X S
      cases b
      · go_wp2_with (first
          | (refine wpList_store_blk rfl _ _ _ rfl w13.heap.size 0 rfl _ rfl [.int .i64 (W : Int), .int .i64 (H : Int), .slice A13 N c13] rfl 26 #[.int .i64 0, .int .i64 0, .slice none 0 0] #[.int .i64 (W : Int), .int .i64 (H : Int), .slice A13 N c13] (Blk.new _ _ _) (by kernel_rfl) (by simp) (by simp [Value.oneCell']) rfl ?_; intro w14 X14 g14)
          | (refine wpList_load_blk rfl _ _ rfl w13.heap.size 0 rfl 26 _ X14 [.int .i64 (W : Int), .int .i64 (H : Int), .slice A13 N c13] rfl _ Try.underlying26 rfl (by kernel_rfl) ?_)
          | (refine wpList_store_blk rfl _ _ _ rfl w11.heap.size 0 rfl _ rfl [.int .i64 (W : Int), .int .i64 (H : Int), .slice A13 N c13] rfl 26 #[.int .i64 (W : Int), .int .i64 (H : Int), .slice A' N c'] #[.int .i64 (W : Int), .int .i64 (H : Int), .slice A13 N c13] (blk_boxed X13.out g14) (by kernel_rfl) (by simp) (by simp [Value.oneCell']) rfl ?_; intro w15 X15 g15)
          | fail)
        go_roundw
        case rel =>
          refine ⟨k + 1, s2, n, cs2, _, A13, c13, by go_num, rfl, by first | rfl | go_num, by omega, by omega, hs2, HL2, ?_, own_grown' (own_boxed O13.out g14) g15 (own_blk_ne (own_boxed O13.out g14) (blk_boxed X13.out g14) (by decide)), X15, (S13.out.boxed g14).grown g15 AP.out⟩
          rw [Hid, HS3.out]
          rfl
        case measure => simp [intOf]; omega
      · go_wp2_with (first
          | (refine wpList_store_blk rfl _ _ _ rfl w13.heap.size 0 rfl _ rfl [.int .i64 (W : Int), .int .i64 (H : Int), .slice A13 N c13] rfl 26 #[.int .i64 0, .int .i64 0, .slice none 0 0] #[.int .i64 (W : Int), .int .i64 (H : Int), .slice A13 N c13] (Blk.new _ _ _) (by kernel_rfl) (by simp) (by simp [Value.oneCell']) rfl ?_; intro w14 X14 g14)
          | (refine wpList_load_blk rfl _ _ rfl w13.heap.size 0 rfl 26 _ X14 [.int .i64 (W : Int), .int .i64 (H : Int), .slice A13 N c13] rfl _ Try.underlying26 rfl (by kernel_rfl) ?_)
          | (refine wpList_store_blk rfl _ _ _ rfl w11.heap.size 0 rfl _ rfl [.int .i64 (W : Int), .int .i64 (H : Int), .slice A13 N c13] rfl 26 #[.int .i64 (W : Int), .int .i64 (H : Int), .slice A' N c'] #[.int .i64 (W : Int), .int .i64 (H : Int), .slice A13 N c13] (blk_boxed X13.out g14) (by kernel_rfl) (by simp) (by simp [Value.oneCell']) rfl ?_; intro w15 X15 g15)
          | fail)
        go_roundw
        case rel =>
          refine ⟨k + 1, s2, n + 1, cs2, _, A13, c13, by go_num, rfl, by first | rfl | go_num, by omega, by omega, hs2, HL2, ?_, own_grown' (own_boxed O13.out g14) g15 (own_blk_ne (own_boxed O13.out g14) (blk_boxed X13.out g14) (by decide)), X15, (S13.out.boxed g14).grown g15 AP.out⟩
          rw [Hid, HS3.out]
          rfl
        case measure => simp [intOf]; omega
    · obtain rfl : k = cnt := by omega
      obtain ⟨rfl, rfl, rfl⟩ : cs' = C ∧ at_ = x ∧ n = y := by
        have e := HS.out.symm.trans HTT.out
        injection e with e1 e2
        injection e2 with e2 e3
        exact ⟨e1, e2, e3⟩
      have SC := Lib.hid (SameField_same W H A' A4 N c' c4 _ cs' wr (by unfold maxLen; omega) (Nat.le_refl _) (Rd.own O.out) (Rd.own (S.out.own 4 rfl)))
      unfold fieldV at SC
      have k0 := X.out.cell 0
      have k1 := X.out.cell 1
      have k2 := X.out.cell 2
      have j0 := (S.out.blk 5 rfl).cell 0
      have j1 := (S.out.blk 5 rfl).cell 1
      have j2 := (S.out.blk 5 rfl).cell 2
      go_wp2_with fail
      refine SC.out.mono ?_
      rintro e w16 ⟨rfl, hb⟩
      have S16 := Lib.hid (S.out.below hb)
      clear hb SC S X O k0 k1 k2 j0 j1 j2 AP
      go_wp2_with fail
      refine (BBH.out _ _ (S16.out.rd 1 rfl)).mono ?_
      rintro e w17 ⟨rfl, h5⟩
      obtain rfl := h5.symm
      obtain ⟨r, hr⟩ : ∃ r, grows W H N add cs seed = r := ⟨_, rfl⟩
      have GS : Hid (∀ w', Rd w' w'.heap.size 1 Ao N (cs.map bv) → Calls Try.prog 21 #[.agg #[.int .i64 (W : Int), .int .i64 (H : Int), .slice Ao N co], .int .i64 (add : Int), .int .i64 (seed : Int)] w' (GeRes r W H w')) := fun w' hh => hr ▸ specGrow_ok W H N add seed Ao co cs w' h1 (by omega) h3 (by omega) HCL.out EN.out HV.out (by omega) hseed hh
      have GI : Hid (∀ w', Rd w' w'.heap.size 1 Ao N (cs.map bv) → Calls Try.prog 22 #[.agg #[.int .i64 (W : Int), .int .i64 (H : Int), .slice Ao N co], .int .i64 (add : Int), .int .i64 (seed : Int)] w' (GeRes r W H w')) := fun w' hh => hr ▸ implGrow_ok W H N add seed Ao co cs w' h1 (by omega) h3 (by omega) HCL.out EN.out HV.out (by omega) hseed hh
      have HR := Lib.hid hr
      clear hr BBH
      go_wp2_with (first
        | (refine wpList_load_blk rfl _ _ rfl w1.heap.size 0 rfl 26 _ (S16.out.blk 3 rfl) [.int .i64 (W : Int), .int .i64 (H : Int), .slice Ao N co] rfl _ Try.underlying26 rfl (by kernel_rfl) ?_)
        | fail)
      refine (GS.out _ (Rd.own (S16.out.own 2 rfl))).mono ?_
      clear GS
      intro e w18 hres
      cases r with
      | none =>
        obtain ⟨rfl, hb⟩ := hres
        have S18 := Lib.hid (S16.out.below hb)
        unfold fieldV
        clear hb S16
        go_wp2_with (first
          | (refine wpList_store_blk rfl _ _ _ rfl w18.heap.size 0 rfl _ rfl [.int .i64 0, .int .i64 0, .slice none 0 0] rfl 26 #[.int .i64 0, .int .i64 0, .slice none 0 0] #[.int .i64 0, .int .i64 0, .slice none 0 0] (Blk.new _ _ _) (by kernel_rfl) (by simp) (by simp [Value.oneCell']) rfl ?_; intro w19 X19 g19)
          | (refine wpList_load_blk rfl _ _ rfl w1.heap.size 0 rfl 26 _ ((S18.out.boxed g19).blk 3 rfl) [.int .i64 (W : Int), .int .i64 (H : Int), .slice Ao N co] rfl _ Try.underlying26 rfl (by kernel_rfl) ?_)
          | fail)
        have S19 := Lib.hid (S18.out.boxed g19)
        clear X19 g19 S18
        refine (GI.out _ (Rd.own (S19.out.own 2 rfl))).mono ?_
        rintro e w20 ⟨rfl, hb⟩
        have S20 := Lib.hid (S19.out.below hb)
        unfold fieldV
        clear hb S19 GI
        go_wp2_with (first
          | (refine wpList_store_blk rfl _ _ _ rfl w20.heap.size 0 rfl _ rfl [.int .i64 0, .int .i64 0, .slice none 0 0] rfl 26 #[.int .i64 0, .int .i64 0, .slice none 0 0] #[.int .i64 0, .int .i64 0, .slice none 0 0] (Blk.new _ _ _) (by kernel_rfl) (by simp) (by simp [Value.oneCell']) rfl ?_; intro w21 X21 g21)
          | fail)
        go_ret
        exact ⟨rfl, ((S20.out.boxed g21).low 0 rfl).2⟩
      | some q =>
        obtain ⟨D, s'⟩ := q
        obtain ⟨A18, c18, rfl, ho, hb⟩ := hres
        obtain ⟨hDl, hDf, hDs, hDc⟩ := grows_more (H := H) h1 EN.out add cs seed D s' HCL.out HR.out
        simp only [hDl] at ho ⊢
        have S18 := Lib.hid (S16.out.below hb)
        have HDL := Lib.hid hDl
        have HDF := Lib.hid hDf
        have HDS := Lib.hid hDs
        have HDC := Lib.hid hDc
        unfold fieldV
        clear ho hb S16 hDl hDf hDs hDc
        go_wp2_with (first
          | (refine wpList_store_blk rfl _ _ _ rfl w18.heap.size 0 rfl _ rfl [.int .i64 (W : Int), .int .i64 (H : Int), .slice A18 N c18] rfl 26 #[.int .i64 0, .int .i64 0, .slice none 0 0] #[.int .i64 (W : Int), .int .i64 (H : Int), .slice A18 N c18] (Blk.new _ _ _) (by kernel_rfl) (by simp) (by simp [Value.oneCell']) rfl ?_; intro w19 X19 g19)
          | (refine wpList_load_blk rfl _ _ rfl w1.heap.size 0 rfl 26 _ ((S18.out.boxed g19).blk 3 rfl) [.int .i64 (W : Int), .int .i64 (H : Int), .slice Ao N co] rfl _ Try.underlying26 rfl (by kernel_rfl) ?_)
          | fail)
        have S19 := Lib.hid (S18.out.boxed g19)
        clear X19 g19 S18
        refine (GI.out _ (Rd.own (S19.out.own 2 rfl))).mono ?_
        rintro e w20 ⟨A20, c20, rfl, ho, hb⟩
        simp only [HDL.out] at ho ⊢
        have S20 := Lib.hid ((S19.out.below hb).add (f := .own w19.heap.size 4 1 (.slice A20 N c20) N (D.map bv)) ho)
        unfold fieldV
        clear ho hb S19 GI
        go_wp2_with (first
          | (refine wpList_store_blk rfl _ _ _ rfl w20.heap.size 0 rfl _ rfl [.int .i64 (W : Int), .int .i64 (H : Int), .slice A20 N c20] rfl 26 #[.int .i64 0, .int .i64 0, .slice none 0 0] #[.int .i64 (W : Int), .int .i64 (H : Int), .slice A20 N c20] (Blk.new _ _ _) (by kernel_rfl) (by simp) (by simp [Value.oneCell']) rfl ?_; intro w21 X21 g21)
          | (refine wpList_load_blk rfl _ _ rfl w20.heap.size 0 rfl 26 _ X21 [.int .i64 (W : Int), .int .i64 (H : Int), .slice A20 N c20] rfl _ Try.underlying26 rfl (by kernel_rfl) ?_)
          | fail)
        have S21 := Lib.hid ((S20.out.boxed g21).add (f := .blk w20.heap.size 26 #[.int .i64 (W : Int), .int .i64 (H : Int), .slice A20 N c20]) X21)
        clear X21 g21 S20
        refine (CC.out A20 c20 D _ HDL.out (Rd.own (S21.out.own 8 rfl))).mono ?_
        rintro e w22 ⟨rfl, hb⟩
        have S22 := Lib.hid (S21.out.below hb)
        rw [HDF.out, HNF.out]
        clear hb S21 CC
        have GC := Lib.hid (implGroups_ok W H N Ao co cs w22 h1 (by omega) h3 (by omega) HCL.out EN.out HV.out (Rd.own (S22.out.own 2 rfl)))
        unfold fieldV at GC
        go_wp2_with (first
          | (refine wpList_load_blk rfl _ _ rfl w1.heap.size 0 rfl 26 _ (S22.out.blk 3 rfl) [.int .i64 (W : Int), .int .i64 (H : Int), .slice Ao N co] rfl _ Try.underlying26 rfl (by kernel_rfl) ?_)
          | fail)
        refine GC.out.mono ?_
        rintro e w23 ⟨T1, Z1, hG1, Aa, ca, Ab, cb, rfl, _, _, _, hb⟩
        have S23 := Lib.hid (S22.out.below hb)
        clear hb S22 GC
        have GD := Lib.hid (implGroups_ok W H N A20 c20 D w23 h1 (by omega) h3 (by omega) HDL.out EN.out HV.out (Rd.own (S23.out.own 8 rfl)))
        unfold fieldV at GD
        go_wp2_with (first
          | (refine wpList_load_blk rfl _ _ rfl w20.heap.size 0 rfl 26 _ (S23.out.blk 9 rfl) [.int .i64 (W : Int), .int .i64 (H : Int), .slice A20 N c20] rfl _ Try.underlying26 rfl (by kernel_rfl) ?_)
          | fail)
        refine GD.out.mono ?_
        rintro e w24 ⟨T2, Z2, hG2, Ac, cc, Ad, cd, rfl, _, _, _, hb⟩
        have S24 := Lib.hid (S23.out.below hb)
        have hnb : ∀ j < N, ∀ b ∈ nbs W H j, b < N := fun j hj b hb => by
          rw [← EN.out] at hj ⊢
          exact nbs_lt hj hb
        have hsym : ∀ j < N, ∀ b ∈ nbs W H j, j ∈ nbs W H b := fun j hj b hb => by
          rw [← EN.out] at hj
          exact nbs_sym (by omega) hj hb
        have hle := groups_le hnb hsym hG1 hG2 HDS.out HDC.out
        obtain ⟨m1, em1⟩ : ∃ m1, Z1.length = m1 := ⟨_, rfl⟩
        obtain ⟨m2, em2⟩ : ∃ m2, Z2.length = m2 := ⟨_, rfl⟩
        rw [em1, em2] at hle
        rw [em1, em2]
        have hnm : decide (m1 < m2) = false := by simp; omega
        have x0 := (S24.out.blk 3 rfl).cell 2
        have x1 := (S24.out.blk 5 rfl).cell 2
        have x2 := (S24.out.blk 9 rfl).cell 2
        clear hb S23 GD hnb hsym hG1 hG2 em1 em2
        have Oa := Lib.hid (S24.out.own 2 rfl)
        have Ob := Lib.hid (S24.out.own 4 rfl)
        have Oc := Lib.hid (S24.out.own 8 rfl)
        have V24 := Lib.hid (S24.out.low 0 rfl).2
        obtain ⟨ga, ca', hva, _, hga⟩ := Oa.out.form (by omega)
        obtain ⟨rfl, rfl⟩ : Ao = some ⟨ga, 0, none⟩ ∧ co = ca' := by injection hva with q1 _ q3; exact ⟨q1, q3⟩
        obtain ⟨gb, cb', hvb, _, hgb⟩ := Ob.out.form (by omega)
        obtain ⟨rfl, rfl⟩ : A4 = some ⟨gb, 0, none⟩ ∧ c4 = cb' := by injection hvb with q1 _ q3; exact ⟨q1, q3⟩
        obtain ⟨gc, cc', hvc, _, hgc⟩ := Oc.out.form (by omega)
        obtain ⟨rfl, rfl⟩ : A20 = some ⟨gc, 0, none⟩ ∧ c20 = cc' := by injection hvc with q1 _ q3; exact ⟨q1, q3⟩
        clear S24 hva hvb hvc
        go_wp2
        go_loopw [244] (fun si wr => ∃ k : Nat, k ≤ N ∧ si = .int .i64 (k : Int) ∧ wr = w24) (fun si _ => N - (intOf si).toNat)
        case atStart => exact ⟨0, Nat.zero_le _, rfl, rfl⟩
        case round =>
          obtain ⟨k, hk, rfl, hwr⟩ := hrel
          obtain rfl := hwr.symm
          by_cases hkN : k < N
          · have hki : (k : Int) < (N : Int) := by omega
            have r1 := own_cellB Oa.out hkN
            have r2 := own_cellB Ob.out hkN
            have r3 := own_cellB Oc.out hkN
            have q2 := HSUB.out k
            have q3 := HDS.out k
            cases hq : cs.getD k false with
            | false =>
              rw [hq] at r1
              clear q2 q3 hq
              go_wp2
              go_roundw
              case rel => exact ⟨k + 1, by omega, by go_num, trivial⟩
              case measure => simp [intOf]; omega
            | true =>
              rw [q2 hq] at r2
              rw [q3 hq] at r3
              rw [hq] at r1
              clear q2 q3 hq
              go_wp2
              go_roundw
              case rel => exact ⟨k + 1, by omega, by go_num, trivial⟩
              case measure => simp [intOf]; omega
          · obtain rfl : k = N := by omega
            go_wp2
            go_ret
            exact ⟨rfl, V24.out⟩
end Go.Proofs.Ytknonmfffcjonaa
