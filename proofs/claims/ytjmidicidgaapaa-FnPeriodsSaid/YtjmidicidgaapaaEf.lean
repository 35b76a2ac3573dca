/- Walks: escapes of orbits; whether a map is valid. Conditions: a valid map whose number is at most 2 in its parts. -/
import Derived.Test.YtjmidicidgaapaaEe
namespace Go.Proofs.Ytjmidicidgaapaa
open Go.RowKit
open Num Quick
attribute [local go_sem] run_store_fl run_store_cx

theorem esc_at {o : Nat → Bool} {m i : Nat} (h1 : ∀ j, j < i → o j = false) (h2 : i ≤ m) (h3 : i < m → o i = true) : esc o m 0 = i := by
  obtain ⟨a, b, d, e⟩ := esc_ok o m 0
  rcases Nat.lt_trichotomy (esc o m 0) i with c | c | c
  · have := e (by omega)
    rw [h1 _ c] at this
    cases this
  · exact c
  · have := d i (by omega) c
    rw [h3 (by omega)] at this
    cases this
theorem below_new (w : World) (o : Obj) : Below w.heap.size w (w.alloc o) := (Below.refl _ _).alloc (Nat.le_refl _) _
theorem within_w (n l h : Int) (w : World) (h1 : l ≤ n) (h2 : n ≤ h) : Calls Try.prog 23 #[.int .i64 n, .int .i64 l, .int .i64 h] w fun e w' => e = .returned (.bool true) ∧ w' = w := by
  have e1 : decide (l ≤ n) = true := by simpa using h1
  have e2 : decide (n ≤ h) = true := by simpa using h2
  go_enter Try.func23, Try.ntmps23
  go_wp2
  go_ret
  exact ⟨rfl, rfl⟩
theorem areTurns_w (n : Nat) (w : World) (h : n ≤ 128) : Calls Try.prog 22 #[.int .i64 (n : Int)] w fun e w' => e = .returned (.bool true) ∧ w' = w := by
  have C1 := Lib.hid (within_w (n : Int) 0 128 w (by omega) (by omega))
  go_enter Try.func22, Try.ntmps22
  go_wp2_with fail
  refine C1.out.mono ?_
  rintro e w1 ⟨rfl, rfl⟩
  go_wp2
  go_ret
  exact ⟨rfl, rfl⟩
set_option maxRecDepth 100000 in
set_option maxHeartbeats 1000000 in
theorem ValidMap_ok (k : Nat) (c : Nat × Nat) (w : World) (hk : k ≤ 3) (hc : Cb ((2 : Nat) : Rat) c) : Calls Try.prog 20 #[mapV k c] w fun e w' => e = .returned (.bool true) ∧ Below w.heap.size w w' := by
  have C1 := Lib.hid (fun w => within_w (k : Int) 0 3 w (by omega) (by omega))
  have C2 := Lib.hid (fun w => isSmall_cb hc (by omega) w)
  obtain ⟨p, q⟩ := c
  have e0 : (w.alloc (.cells #[.int .i64 (k : Int), .complex .f32 p q] 28)).cell? ⟨w.heap.size, 0, none⟩ = some (.int .i64 (k : Int)) := (Blk.new w 28 #[.int .i64 (k : Int), .complex .f32 p q]).cell 0
  have e1 : (w.alloc (.cells #[.int .i64 (k : Int), .complex .f32 p q] 28)).cell? ⟨w.heap.size, 1, none⟩ = some (.complex .f32 p q) := (Blk.new w 28 #[.int .i64 (k : Int), .complex .f32 p q]).cell 1
  unfold mapV
  clear hc
  go_enter Try.func20, Try.ntmps20
  go_wp2_with fail
  refine (C1.out _).mono ?_
  rintro e w1 ⟨rfl, hw1⟩
  obtain rfl := hw1.symm
  go_wp2_with fail
  refine (C2.out _).mono ?_
  rintro e w2 ⟨rfl, hw2⟩
  obtain rfl := hw2.symm
  go_wp2
  go_ret
  exact ⟨rfl, below_new _ _⟩
set_option maxRecDepth 100000 in
set_option maxHeartbeats 2000000 in
theorem escape_ok (k m : Nat) (c z : Nat × Nat) (w : World) (hk : k ≤ 3) (hc : Cb ((2 : Nat) : Rat) c) (hz : Cb ((110 : Nat) : Rat) z) (hw : W32 z) (hm : m ≤ 128) :
    Calls Try.prog 40 #[mapV k c, .complex .f32 z.1 z.2, .int .i64 (m : Int)] w fun e w' => e = .returned (.tuple #[.int .i64 ((esc (fun i => out (orb k c z i)) m 0 : Nat) : Int), .complex .f32 (orb k c z (esc (fun i => out (orb k c z i)) m 0)).1 (orb k c z (esc (fun i => out (orb k c z i)) m 0)).2]) ∧ Below w.heap.size w w' := by
  obtain ⟨f, ef⟩ : ∃ f, orb k c z = f := ⟨_, rfl⟩
  have OK := Lib.hid (fun n hn => orb_ok (n := n) hk hc hz hw hn)
  have f0 : f 0 = z := by rw [← ef]; rfl
  have NX : Hid (∀ i, Cb ((110 : Nat) : Rat) (f i) → W32 (f i) → out (f i) = false → ∀ w : World, Calls Try.prog 25 #[mapV k c, .complex .f32 (f i).1 (f i).2] w fun e w' => e = .returned (.complex .f32 (f (i + 1)).1 (f (i + 1)).2) ∧ Below w.heap.size w w') := Lib.hid fun i h1 h2 h3 w => by
    have := (nxt_ok hk hc (in_of_out h1 h3) h2).1 w
    have e : nxt k c (f i) = f (i + 1) := by rw [← ef]; rfl
    rw [e] at this
    exact this
  rw [ef] at OK ⊢
  rw [← f0]
  have IO := Lib.hid (fun i (h : Cb ((110 : Nat) : Rat) (f i)) (w : World) => isOut_cb h w)
  obtain ⟨v, ev⟩ : ∃ v, v = w.alloc (.cells #[.int .i64 (k : Int), .complex .f32 c.1 c.2] 28) := ⟨_, rfl⟩
  have B0 : Hid (Blk v w.heap.size 28 #[.int .i64 (k : Int), .complex .f32 c.1 c.2]) := by rw [ev]; exact Lib.hid (Blk.new _ _ _)
  have V0 : Hid (Below w.heap.size w v) := by rw [ev]; exact Lib.hid (below_new _ _)
  have EV := Lib.hid ev
  obtain ⟨p, q⟩ := c
  unfold mapV at NX
  unfold mapV
  clear hc hz hw ef f0 ev
  go_enter Try.func40, Try.ntmps40
  go_wp2
  rw [← EV.out]
  clear EV
  go_loopw [1, 10] (fun sz si wr => ∃ i : Nat, i ≤ m ∧ si = .int .i64 (i : Int) ∧ sz = .complex .f32 (f i).1 (f i).2 ∧ Hid (∀ j, j < i → out (f j) = false) ∧ Hid (Blk wr w.heap.size 28 #[.int .i64 (k : Int), .complex .f32 p q]) ∧ Hid (Below w.heap.size w wr)) (fun _ si _ => m - (intOf si).toNat)
  case atStart => exact ⟨0, Nat.zero_le _, rfl, rfl, Lib.hid (fun j hj => absurd hj (by omega)), B0, V0⟩
  case round =>
    clear B0 V0
    obtain ⟨i, hi, rfl, rfl, HJ, B, V⟩ := hrel
    obtain ⟨o1, o2⟩ := OK.out i HJ.out i (Nat.le_refl _)
    by_cases hlt : i < m
    · have ISO := Lib.hid (IO.out i o1 wr)
      have hii : (i : Int) < (m : Int) := by omega
      cases ho : out (f i)
      · rw [ho] at ISO
        have NXI := Lib.hid (NX.out i o1 o2 ho wr)
        have HJ2 : Hid (∀ j, j < i + 1 → out (f j) = false) := Lib.hid fun j hj => by
          rcases Nat.lt_succ_iff_lt_or_eq.1 hj with hj | rfl
          · exact HJ.out j hj
          · exact ho
        have e0 := B.out.cell 0
        have e1 := B.out.cell 1
        clear o1 o2 ho
        go_wp2_with fail
        refine ISO.out.mono ?_
        rintro e w1 ⟨rfl, hw1⟩
        obtain rfl := hw1.symm
        go_wp2_with fail
        refine NXI.out.mono ?_
        rintro e w2 ⟨rfl, hb2⟩
        have B2 := Lib.hid (B.out.below hb2 B.out.lt)
        have V2 := Lib.hid (V.out.trans (hb2.mono V.out.size))
        clear hb2 B V e0 e1 NXI ISO HJ
        go_wp2
        go_roundw
        case rel => exact ⟨i + 1, by omega, by go_num, rfl, HJ2, B2, V2⟩
        case measure => simp [intOf]; omega
      · rw [ho] at ISO
        have HE : Hid (esc (fun i => out (f i)) m 0 = i) := Lib.hid (esc_at (fun j hj => HJ.out j hj) (by omega) (fun _ => ho))
        clear o1 o2 ho
        go_wp2_with fail
        refine ISO.out.mono ?_
        rintro e w1 ⟨rfl, hw1⟩
        obtain rfl := hw1.symm
        go_wp2
        go_ret2
        rw [HE.out]
        exact ⟨rfl, V.out⟩
    · obtain rfl : i = m := by omega
      have HE : Hid (esc (fun j => out (f j)) i 0 = i) := Lib.hid (esc_at (fun j hj => HJ.out j hj) (by omega) (fun h => absurd h (by omega)))
      clear o1 o2
      go_wp2
      go_ret2
      rw [HE.out]
      exact ⟨rfl, V.out⟩
/-- How many steps until it is out. -/
noncomputable abbrev cnt (k : Nat) (c z : Nat × Nat) (m : Nat) : Nat := esc (fun i => out (orb k c z i)) m 0
set_option maxRecDepth 100000 in
set_option maxHeartbeats 1000000 in
theorem areEscape_ok (k m : Nat) (c z : Nat × Nat) (w : World) (hk : k ≤ 3) (hc : Cb ((2 : Nat) : Rat) c) (hz : Cb ((110 : Nat) : Rat) z) (hm : m ≤ 128) :
    Calls Try.prog 39 #[mapV k c, .complex .f32 z.1 z.2, .int .i64 (m : Int)] w fun e w' => e = .returned (.bool true) ∧ Below w.heap.size w w' := by
  have C1 := Lib.hid (fun w => ValidMap_ok k c w hk hc)
  have C2 := Lib.hid (fun w => isSmall_cb hz (by omega) w)
  have C3 := Lib.hid (fun w => areTurns_w m w hm)
  obtain ⟨v, ev⟩ : ∃ v, v = w.alloc (.cells #[.int .i64 (k : Int), .complex .f32 c.1 c.2] 28) := ⟨_, rfl⟩
  have e0 : v.cell? ⟨w.heap.size, 0, none⟩ = some (.int .i64 (k : Int)) := by rw [ev]; exact (Blk.new w 28 #[.int .i64 (k : Int), .complex .f32 c.1 c.2]).cell 0
  have e1 : v.cell? ⟨w.heap.size, 1, none⟩ = some (.complex .f32 c.1 c.2) := by rw [ev]; exact (Blk.new w 28 #[.int .i64 (k : Int), .complex .f32 c.1 c.2]).cell 1
  have V0 : Hid (Below w.heap.size w v) := by rw [ev]; exact Lib.hid (below_new _ _)
  have EV := Lib.hid ev
  rw [ev] at e0 e1
  obtain ⟨p, q⟩ := c
  unfold mapV at C1 ⊢
  clear hc hz ev
  go_enter Try.func39, Try.ntmps39
  go_wp2_with fail
  rw [← EV.out]
  refine (C1.out _).mono ?_
  rintro e w1 ⟨rfl, hb1⟩
  have V1 := Lib.hid (V0.out.trans (hb1.mono V0.out.size))
  clear hb1 V0 EV e0 e1
  go_wp2_with fail
  refine (C2.out _).mono ?_
  rintro e w2 ⟨rfl, hw2⟩
  obtain rfl := hw2.symm
  go_wp2_with fail
  refine (C3.out _).mono ?_
  rintro e w3 ⟨rfl, hw3⟩
  obtain rfl := hw3.symm
  go_wp2
  go_ret
  exact ⟨rfl, V1.out⟩
set_option maxRecDepth 100000 in
set_option maxHeartbeats 1000000 in
theorem EscapeOf_ok (k m : Nat) (c z : Nat × Nat) (w : World) (hk : k ≤ 3) (hc : Cb ((2 : Nat) : Rat) c) (hz : Cb ((110 : Nat) : Rat) z) (hw : W32 z) (hm : m ≤ 128) :
    Calls Try.prog 13 #[mapV k c, .complex .f32 z.1 z.2, .int .i64 (m : Int)] w fun e w' => e = .returned (.tuple #[.int .i64 ((cnt k c z m : Nat) : Int), .bool true]) ∧ Below w.heap.size w w' := by
  have C1 := Lib.hid (fun w => areEscape_ok k m c z w hk hc hz hm)
  have C2 := Lib.hid (fun w => escape_ok k m c z w hk hc hz hw hm)
  obtain ⟨n, en⟩ : ∃ n, cnt k c z m = n := ⟨_, rfl⟩
  unfold cnt at en ⊢
  rw [en] at C2 ⊢
  obtain ⟨o, eo⟩ : ∃ o, orb k c z n = o := ⟨_, rfl⟩
  rw [eo] at C2
  obtain ⟨v, ev⟩ : ∃ v, v = w.alloc (.cells #[.int .i64 (k : Int), .complex .f32 c.1 c.2] 28) := ⟨_, rfl⟩
  have B0 : Hid (Blk v w.heap.size 28 #[.int .i64 (k : Int), .complex .f32 c.1 c.2]) := by rw [ev]; exact Lib.hid (Blk.new _ _ _)
  have e0 : v.cell? ⟨w.heap.size, 0, none⟩ = some (.int .i64 (k : Int)) := B0.out.cell 0
  have e1 : v.cell? ⟨w.heap.size, 1, none⟩ = some (.complex .f32 c.1 c.2) := B0.out.cell 1
  have V0 : Hid (Below w.heap.size w v) := by rw [ev]; exact Lib.hid (below_new _ _)
  have EV := Lib.hid ev
  rw [ev] at e0 e1
  obtain ⟨p, q⟩ := c
  unfold mapV at C1 C2 ⊢
  clear hc hz hw ev en eo
  go_enter Try.func13, Try.ntmps13
  go_wp2_with fail
  rw [← EV.out]
  refine (C1.out _).mono ?_
  rintro e w1 ⟨rfl, hb1⟩
  have V1 := Lib.hid (V0.out.trans (hb1.mono V0.out.size))
  have B1 := Lib.hid (B0.out.below hb1 B0.out.lt)
  clear hb1 V0 EV e0 e1 B0
  have e0 := B1.out.cell 0
  have e1 := B1.out.cell 1
  go_wp2_with fail
  refine (C2.out _).mono ?_
  rintro e w2 ⟨rfl, hb2⟩
  have V2 := Lib.hid (V1.out.trans (hb2.mono V1.out.size))
  clear hb2 V1 B1 e0 e1
  go_wp2
  go_ret2
  exact ⟨rfl, V2.out⟩
end Go.Proofs.Ytjmidicidgaapaa
