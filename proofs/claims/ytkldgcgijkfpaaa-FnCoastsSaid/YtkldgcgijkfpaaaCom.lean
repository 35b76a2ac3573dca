/- Walk: DoLinesCross, CrossingsOf. Conditions: as each says. -/
import Derived.Test.YtkldgcgijkfpaaaCol
namespace Go.Proofs.Ytkldgcgijkfpaaa
open Go.RowKit
open Num Quick
attribute [local go_sem] run_store_fl run_store_cx

set_option maxRecDepth 100000 in
theorem DoLinesCross_ok {a b c d : Nat × Nat} {s1 s2 s3 s4 : Nat} (ha : Cb ((32 : Nat) : Rat) a) (hb : Cb ((32 : Nat) : Rat) b) (hc : Cb ((32 : Nat) : Rat) c) (hd : Cb ((32 : Nat) : Rat) d) (h : crossS a b c d = some (s1, s2, s3, s4)) (w : World) : Calls Try.prog 26 #[.complex .f32 a.1 a.2, .complex .f32 b.1 b.2, .complex .f32 c.1 c.2, .complex .f32 d.1 d.2] w fun e w' => e = .returned (.bool (differ s1 s2 && differ s3 s4)) ∧ Below w.heap.size w w' := by
  have CR := Lib.hid (fun w => cross_ok h w)
  generalize (differ s1 s2 && differ s3 s4) = r at *
  obtain ⟨v, ev⟩ : ∃ v, v = w.alloc (.cells #[.complex .f32 a.1 a.2, .complex .f32 b.1 b.2, .complex .f32 c.1 c.2, .complex .f32 d.1 d.2] 37) := ⟨_, rfl⟩
  have VV : Hid (Below w.heap.size w v) := by rw [ev]; exact Lib.hid ((Below.refl _ _).alloc (Nat.le_refl _) _)
  have O1 : v.ownsRow w.heap.size 37 1 (.slice (some ⟨w.heap.size, 0, none⟩) 4 4) 4 ((List.range 4).map (fun i => cxv (if i = 0 then a else if i = 1 then b else if i = 2 then c else d))) := by
    rw [ev]
    exact (Blk.new w _ _).own (n := 4) (size := 1) (Nat.le_refl _) rfl (by unfold maxLen; omega)
  have AF := Lib.hid (areFiniteF (B := ((32 : Nat) : Rat)) (fun i => if i = 0 then a else if i = 1 then b else if i = 2 then c else d) (some ⟨w.heap.size, 0, none⟩) 4 4 v (by omega) (fun k hk => by
    show Cb _ (if k = 0 then a else if k = 1 then b else if k = 2 then c else d)
    split
    · exact ha
    · split
      · exact hb
      · split
        · exact hc
        · exact hd) (Rd.own O1))
  have EV := Lib.hid ev
  obtain ⟨a1, a2⟩ := a
  obtain ⟨b1, b2⟩ := b
  obtain ⟨c1, c2⟩ := c
  obtain ⟨d1, d2⟩ := d
  clear ha hb hc hd h ev O1
  simp only at CR EV
  go_enter Try.func26, Try.ntmps26
  go_wp2_with fail
  rw [← EV.out]
  refine AF.out.mono ?_
  rintro e w1 ⟨rfl, hw1⟩
  obtain rfl := hw1.symm
  go_wp2_with fail
  refine (CR.out _).mono ?_
  rintro e w1 ⟨rfl, hw1⟩
  obtain rfl := hw1.symm
  cases r
  all_goals
    go_wp2
    go_ret
    exact ⟨rfl, VV.out⟩
set_option maxRecDepth 100000 in
set_option maxHeartbeats 4000000 in
theorem CrossingsOf_ok {f : Nat → Nat × Nat} (A : Option Addr) (n c : Nat) (w : World) (hn : n ≤ 8) (hf : ∀ i, i < n → Cb ((32 : Nat) : Rat) (f i)) (hX : ∀ k i, k + 1 < i + 1 → i + 1 < n → ∃ s1 s2 s3 s4, crossS (f k) (f (k + 1)) (f i) (f (i + 1)) = some (s1, s2, s3, s4) ∧ (differ s1 s2 && differ s3 s4) = false) (hA : Rd w w.heap.size 1 A n ((List.range n).map (fun i => cxv (f i)))) :
    Calls Try.prog 25 #[.slice A n c] w fun e w' => e = .returned (.tuple #[.int .i64 0, .bool true]) ∧ Below w.heap.size w w' := by
  have AP := Lib.hid (arePoints_w f A n c w (by omega) hf hA)
  have HX := Lib.hid hX
  have HA := Lib.hid hA
  have hn64 : ¬ (64 : Int) < (n : Int) := by omega
  clear hf hX hA
  go_enter Try.func25, Try.ntmps25
  go_wp2_with fail
  refine AP.out.mono ?_
  rintro e w1 ⟨rfl, hw1⟩
  obtain rfl := hw1.symm
  clear AP
  go_wp2
  go_loopw [4, 5] (fun sn si wr => ∃ i : Nat, si = .int .i64 (i : Int) ∧ 1 ≤ i ∧ i ≤ n + 1 ∧ sn = .int .i64 0 ∧ Hid (Below w.heap.size w wr)) (fun _ si _ => n + 1 - (intOf si).toNat)
  case atStart => exact ⟨1, rfl, Nat.le_refl _, by omega, rfl, Lib.hid (Below.refl _ _)⟩
  case round =>
    obtain ⟨i, rfl, hi1, hin, rfl, V⟩ := hrel
    by_cases hlt : i < n
    · have hii : (i : Int) < (n : Int) := by omega
      obtain ⟨w0, ew0⟩ : ∃ x, wr = x := ⟨_, rfl⟩
      rw [ew0] at V ⊢
      clear ew0
      go_wp2
      go_loopw [4, 6] (fun sn sk wk => ∃ k : Nat, sk = .int .i64 (k : Int) ∧ 1 ≤ k ∧ k ≤ i ∧ sn = .int .i64 0 ∧ Hid (Below w.heap.size w wk)) (fun _ sk _ => i - (intOf sk).toNat)
      case atStart => exact ⟨1, rfl, Nat.le_refl _, hi1, rfl, V⟩
      case round =>
        clear V
        obtain ⟨k, rfl, hk1, hki, rfl, V⟩ := hrel
        by_cases hlk : k < i
        · have hkI : (k : Int) < (i : Int) := by omega
          obtain ⟨p, hp⟩ : ∃ p, p + 1 = k := ⟨k - 1, by omega⟩
          obtain ⟨q, hq⟩ : ∃ q, q + 1 = i := ⟨i - 1, by omega⟩
          have hpI : (k : Int) - 1 = (p : Int) := by omega
          have hqI : (i : Int) - 1 = (q : Int) := by omega
          have wp : IntKind.i64.wrap (p : Int) = (p : Int) := IntWalk.i64_in _ (by omega)
          have wq : IntKind.i64.wrap (q : Int) = (q : Int) := IntWalk.i64_in _ (by omega)
          have b1 : (0 : Int) ≤ (p : Int) := by omega
          have b2 : (p : Int) < (n : Int) := by omega
          have b3 : (0 : Int) ≤ (k : Int) := by omega
          have b4 : (k : Int) < (n : Int) := by omega
          have b5 : (0 : Int) ≤ (q : Int) := by omega
          have b6 : (q : Int) < (n : Int) := by omega
          have b7 : (0 : Int) ≤ (i : Int) := by omega
          obtain ⟨s1, s2, s3, s4, hs, hd⟩ := HX.out p q (by omega) (by omega)
          rw [hp, hq] at hs
          obtain ⟨bb, off, rfl, hbb, hc⟩ := (HA.out.below V.out).2 (by omega)
          have cP := hc p _ (range_map_get (fun i => cxv (f i)) (show p < n by omega))
          have cK := hc k _ (range_map_get (fun i => cxv (f i)) (show k < n by omega))
          have cQ := hc q _ (range_map_get (fun i => cxv (f i)) (show q < n by omega))
          have cI := hc i _ (range_map_get (fun i => cxv (f i)) hlt)
          have CR := fun w => cross_ok hs w
          rw [hd] at CR
          obtain ⟨xp, exp⟩ : ∃ x, f p = x := ⟨_, rfl⟩
          obtain ⟨xk, exk⟩ : ∃ x, f k = x := ⟨_, rfl⟩
          obtain ⟨xq, exq⟩ : ∃ x, f q = x := ⟨_, rfl⟩
          obtain ⟨xi, exi⟩ : ∃ x, f i = x := ⟨_, rfl⟩
          rw [exp] at cP CR
          rw [exk] at cK CR
          rw [exq] at cQ CR
          rw [exi] at cI CR
          obtain ⟨p1, p2'⟩ := xp
          obtain ⟨k1, k2⟩ := xk
          obtain ⟨q1, q2⟩ := xq
          obtain ⟨i1, i2⟩ := xi
          unfold cxv at cP cK cQ cI
          simp only at cP cK cQ cI CR
          have CR := Lib.hid CR
          clear hc hs hd hp hq exp exk exq exi HX
          go_wp2
          go_quiet (first
            | (go_at_call 59; with_reducible exact Calls.quiet_of_same (CR.out _)))
          generalize hw : World.drewN _ _ = w6
          have V6 : Hid (Below w.heap.size w w6) := Lib.hid (V.out.trans (by rw [← hw]; exact ⟨rfl, rfl, rfl, Nat.le_refl _, fun _ _ => rfl⟩))
          clear hw cP cK cQ cI V CR
          go_wp2
          go_roundw
          case rel => exact ⟨k + 1, by go_num, by omega, by omega, rfl, V6⟩
          case measure => simp [intOf]; omega
        · obtain rfl : i = k := by omega
          have hkI : ¬ (i : Int) < (i : Int) := by omega
          go_wp2
          go_roundw
          case rel => exact ⟨i + 1, by go_num, by omega, by omega, rfl, V⟩
          case measure => simp [intOf]; omega
    · have hii : ¬ (i : Int) < (n : Int) := by omega
      go_wp2
      go_ret2
      exact ⟨rfl, V.out⟩
end Go.Proofs.Ytkldgcgijkfpaaa
