/- Walks: SameField, CountCells, DrawnField. Conditions: sides of 1 to 16. -/
import Derived.Test.YtejmpijihmmajaaGmb
import Derived.Test.YtejmpijihmmajaaMe
namespace Go.Proofs.Ytejmpijihmmajaa
open Go.RowKit
open Num Quick
attribute [local go_sem] run_store_fl run_store_cx

set_option maxRecDepth 100000 in
set_option maxHeartbeats 400000 in
theorem equalB_same (A A' : Option Addr) (n c c' B : Nat) (xs : List Bool) (w : World) (hn : n ≤ maxLen) (hB : B ≤ w.heap.size)
    (hA : Rd w B 1 A n (xs.map bv)) (hA' : Rd w B 1 A' n (xs.map bv)) :
    Calls Try.prog 35 #[.slice A n c, .slice A' n c'] w fun e w' => e = .returned (.bool true) ∧ Below w.heap.size w w' := by
  unfold maxLen at hn
  have hl : xs.length = n := by have := hA.len; simpa using this
  go_enter Try.func35, Try.ntmps35
  go_wp2
  go_loopw [13] (fun i wr => ∃ k : Nat, k ≤ n ∧ i = .int .i64 k ∧ Below w.heap.size w wr) (fun i _ => n - (intOf i).toNat)
  case atStart => exact ⟨0, Nat.zero_le _, rfl, Below.refl _ _⟩
  case round =>
    obtain ⟨k, hk, rfl, hb⟩ := hrel
    by_cases hlt : k < n
    · obtain ⟨b, off, rfl, hbb, hc⟩ := hA.2 (by omega)
      obtain ⟨b', off', rfl, hbb', hc'⟩ := hA'.2 (by omega)
      have hkl : k < xs.length := by omega
      have ex : (xs.map bv)[k]? = some (.bool xs[k]) := by rw [List.getElem?_map, List.getElem?_eq_getElem hkl]; rfl
      have c1 : wr.cell? ⟨b, off + k, none⟩ = some (.bool xs[k]) := (hb.cell (show b < w.heap.size by omega)).trans (hc _ _ ex)
      have c3 : wr.cell? ⟨b', off' + k, none⟩ = some (.bool xs[k]) := (hb.cell (show b' < w.heap.size by omega)).trans (hc' _ _ ex)
      clear hc hc' ex
      generalize xs[k] = p at *
      have Hb := Lib.hid hb
      have hk0 : (0 : Int) ≤ (k : Int) := by omega
      have hk1 : (k : Int) < (n : Int) := by omega
      go_wp2
      go_quiet (fail)
      go_wp2
      go_roundw
      case rel => exact ⟨k + 1, by omega, by go_num, ⟨Hb.out.os, Hb.out.tape, Hb.out.output, Hb.out.size, Hb.out.block⟩⟩
      case measure => simp [intOf]; omega
    · go_wp2
      go_ret
      exact ⟨rfl, hb⟩
set_option maxRecDepth 100000 in
set_option maxHeartbeats 400000 in
theorem SameField_same (wd hi : Int) (A A' : Option Addr) (n c c' B : Nat) (xs : List Bool) (w : World) (hn : n ≤ maxLen) (hB : B ≤ w.heap.size)
    (hA : Rd w B 1 A n (xs.map bv)) (hA' : Rd w B 1 A' n (xs.map bv)) :
    Calls Try.prog 14 #[fieldV wd hi A n c, fieldV wd hi A' n c'] w fun e w' => e = .returned (.bool true) ∧ Below w.heap.size w w' := by
  have hb0 : ∀ o o', Below w.heap.size w ((w.alloc o).alloc o') := fun o o' => ((Below.refl _ _).alloc (Nat.le_refl _) _).alloc (by simp) _
  have H0 := Lib.hid hb0
  clear hb0
  unfold fieldV
  go_enter Try.func14, Try.ntmps14
  go_wp2_with fail
  refine (equalB_same A A' n c c' B xs _ hn (by simp; omega) ((hA.below ((H0.out _ _).mono hB))) ((hA'.below ((H0.out _ _).mono hB)))).mono ?_
  rintro e w1 ⟨rfl, hb1⟩
  go_wp2
  go_ret
  exact ⟨rfl, (H0.out _ _).trans (hb1.mono (by simp; omega))⟩
/-- The full ones of the first k cells. -/
def fulls (cs : List Bool) (k : Nat) : List Nat := (List.range k).filter (fun i => cs.getD i false)
theorem fulls_succ (cs : List Bool) (k : Nat) : fulls cs (k + 1) = fulls cs k ++ (if cs.getD k false then [k] else []) := by
  unfold fulls
  rw [List.range_succ, List.filter_append]
  congr 1
  rw [List.filter_cons, List.filter_nil]
theorem fulls_le (cs : List Bool) (k : Nat) : (fulls cs k).length ≤ k := by
  unfold fulls
  have := List.length_filter_le (fun i => cs.getD i false) (List.range k)
  simpa using this
set_option maxRecDepth 100000 in
set_option maxHeartbeats 1000000 in
theorem CountCells_ok (W H N : Nat) (A : Option Addr) (c : Nat) (cs : List Bool) (w : World) (hW : 1 ≤ W) (hW' : W ≤ 16) (hH : 1 ≤ H) (hH' : H ≤ 16) (hl : cs.length = N) (hP : W * H = N)
    (hA : Rd w w.heap.size 1 A N (cs.map bv)) :
    Calls Try.prog 6 #[fieldV W H A N c] w fun e w' => e = .returned (.tuple #[.int .i64 (((fulls cs N).length : Nat) : Int), .bool true]) ∧ Below w.heap.size w w' := by
  have hN : N ≤ 256 := by have := Nat.mul_le_mul hW' hH'; omega
  obtain ⟨v, ev⟩ : ∃ v, v = w.alloc (.cells #[.int .i64 (W : Int), .int .i64 (H : Int), .slice A N c] 26) := ⟨_, rfl⟩
  have K0 : Blk v w.heap.size 26 #[.int .i64 (W : Int), .int .i64 (H : Int), .slice A N c] := by rw [ev]; exact Blk.new _ _ _
  have V0 : Hid (Below w.heap.size w v) := by rw [ev]; exact (Below.refl _ _).alloc (Nat.le_refl _) _
  have VF := ValidField_any (W : Int) (H : Int) A N c v
  rw [valid_wh hW hW' hH hH' hP] at VF
  have VFH := Lib.hid VF
  have b0 : v.cell? ⟨w.heap.size, 0, none⟩ = some (.int .i64 (W : Int)) := K0.cell 0
  have b1' : v.cell? ⟨w.heap.size, 1, none⟩ = some (.int .i64 (H : Int)) := K0.cell 1
  have b2 : v.cell? ⟨w.heap.size, 2, none⟩ = some (.slice A N c) := K0.cell 2
  have KV := Lib.hid K0
  have HA := Lib.hid hA
  have HL := Lib.hid hl
  have EV := Lib.hid ev
  rw [ev] at b0 b1' b2
  unfold fieldV at VFH
  unfold fieldV
  clear VF K0 hA hl ev hP
  go_enter Try.func6, Try.ntmps6
  go_wp2_with fail
  rw [← EV.out]
  refine VFH.out.mono ?_
  rintro e w1 ⟨rfl, hb⟩
  have d2 : w1.cell? ⟨w.heap.size, 2, none⟩ = some (.slice A N c) := (KV.out.below hb KV.out.lt).cell 2
  have V1 := Lib.hid (V0.out.trans (hb.mono V0.out.size))
  clear hb b0 b1' b2
  go_wp2
  go_loopw [4, 13] (fun sn si wr => ∃ k : Nat, k ≤ N ∧ si = .int .i64 (k : Int) ∧ sn = .int .i64 (((fulls cs k).length : Nat) : Int) ∧ Hid (Below w.heap.size w wr)) (fun _ si _ => N - (intOf si).toNat)
  case atStart => exact ⟨0, Nat.zero_le _, rfl, rfl, V1⟩
  case round =>
    obtain ⟨k, hk, rfl, rfl, HB⟩ := hrel
    by_cases hlt : k < N
    · obtain ⟨b, off, rfl, hbb, hc⟩ := HA.out.2 (by omega)
      have e0 : wr.cell? ⟨b, off + k, none⟩ = some (.bool (cs.getD k false)) := (HB.out.cell (p := ⟨b, off + k, none⟩) hbb).trans (hc _ _ (bv_at HL.out hlt))
      have hle := fulls_le cs k
      have HS := fulls_succ cs k
      obtain ⟨x, ex⟩ : ∃ x, cs.getD k false = x := ⟨_, rfl⟩
      obtain ⟨m, em⟩ : ∃ m, (fulls cs k).length = m := ⟨_, rfl⟩
      have HS2 : Hid ((fulls cs (k + 1)).length = m + if x then 1 else 0) := by unfold Hid; rw [HS, ex, List.length_append, em]; cases x <;> rfl
      rw [ex] at e0
      rw [em] at hle
      clear hc ex HS
      rw [em]
      have hkI : (k : Int) < (N : Int) := by omega
      clear em
      cases x
      · go_wp2
        go_roundw
        case rel => exact ⟨k + 1, by omega, by go_num, by rw [HS2.out]; rfl, HB⟩
        case measure => simp [intOf]; omega
      · go_wp2
        go_roundw
        case rel => exact ⟨k + 1, by omega, by go_num, by rw [HS2.out]; go_num, HB⟩
        case measure => simp [intOf]; omega
    · obtain rfl : k = N := by omega
      go_wp2
      go_ret2
      exact ⟨rfl, HB.out⟩
theorem c32768 : Fl .f32 1191182336 ∧ Num.fv .f32 1191182336 = 32768 := by
  refine ⟨?_, ?_⟩
  · show (1191182336 : Nat) % FloatKind.f32.format.signWeight < FloatKind.f32.format.infRung
    decide +kernel
  · unfold Num.fv val rv p2
    decide +kernel
theorem drawn_set (k : Nat) (h : k < 16) : (List.replicate k true ++ List.replicate (16 - k) false).set k true = List.replicate (k + 1) true ++ List.replicate (16 - (k + 1)) false := by
  have : ∀ k : Fin 16, (List.replicate k.1 true ++ List.replicate (16 - k.1) false).set k.1 true = List.replicate (k.1 + 1) true ++ List.replicate (16 - (k.1 + 1)) false := by decide +kernel
  exact this ⟨k, h⟩
theorem isSeed5 (w : World) : Calls Try.prog 33 #[.int .i64 5] w fun e w' => e = .returned (.bool true) ∧ w' = w := by
  go_enter Try.func33, Try.ntmps33
  go_wp2_with (go_at_call 41; refine (within_any _ _ _ _).mono ?_; rintro e w' ⟨rfl, rfl⟩)
  go_ret
  exact ⟨rfl, rfl⟩
set_option maxRecDepth 100000 in
set_option maxHeartbeats 2000000 in
theorem drawn16_ok (w : World) :
    Calls Try.prog 13 #[.int .i64 4, .int .i64 4, .float .f32 1065353216, .int .i64 5] w fun e w' => ∃ g c s, w.heap.size ≤ g ∧ e = .returned (.tuple #[fieldV 4 4 (some ⟨g, 0, none⟩) 16 c, .int .i64 s, .bool true]) ∧ w'.ownsRow w.heap.size 4 1 (.slice (some ⟨g, 0, none⟩) 16 c) 16 ((List.replicate 16 true).map bv) ∧ Below w.heap.size w w' := by
  obtain ⟨v, ev⟩ : ∃ v, v = w.alloc (.cells #[.int .i64 0, .int .i64 0, .slice none 0 0] 26) := ⟨_, rfl⟩
  have B0 : Hid (Below w.heap.size w v) := by rw [ev]; exact (Below.refl _ _).alloc (Nat.le_refl _) _
  have bR : Hid (Blk v w.heap.size 26 #[.int .i64 0, .int .i64 0, .slice none 0 0]) := by rw [ev]; exact Blk.new w _ _
  have hsz0 := B0.out.size
  have EV := Lib.hid ev
  have EF := EmptyField_ok 4 4 16 v (by omega) (by omega) (by omega) (by omega) rfl
  rw [show ((4 : Nat) : Int) = 4 from rfl] at EF
  have EFH := Lib.hid EF
  have IS := Lib.hid (fun w => isShare_num c1.1 (by rw [c1.2]; decide +kernel) (by rw [c1.2]; decide +kernel) w)
  have QM := r32 (show floatBits .mul .f32 1065353216 1191182336 = some 1191182336 by decide +kernel)
  have QC : Hid (∀ d : Nat, d < 32768 → (FloatKind.f32.format.order (floatOfInt .f32 (d : Int)) 1191182336 == some .lt) = true) := Lib.hid fun d hd => by
    obtain ⟨f1, f2, _⟩ := fint .f32 (d : Int) (by omega)
    have hq : (((d : Nat) : Int) : Rat) < ((32768 : Int) : Rat) := Rat.intCast_lt_intCast.2 (by omega)
    rw [cmp_lt' f1 c32768.1 (by rw [f2, c32768.2]; exact hq)]
    decide
  clear ev EF
  go_enter Try.func13, Try.ntmps13
  go_wp2_with fail
  rw [← EV.out]
  refine EFH.out.mono ?_
  rintro e w1 ⟨g, c, hg0, rfl, ho1, hb1⟩
  have HB1 := Lib.hid (B0.out.trans (hb1.mono hsz0))
  have R1 := Lib.hid (bR.out.below hb1 bR.out.lt)
  have hz1 : v.heap.size ≤ w1.heap.size := hb1.size
  have O1 := Lib.hid ho1
  have hgw : w.heap.size ≤ g := Nat.le_trans hsz0 hg0
  clear hb1 ho1 hg0
  unfold fieldV
  go_wp2_with (first
    | (refine wpList_store_blk rfl _ _ _ rfl w1.heap.size 0 rfl _ rfl [.int .i64 4, .int .i64 4, .slice (some ⟨g, 0, none⟩) 16 c] rfl 26 #[.int .i64 0, .int .i64 0, .slice none 0 0] #[.int .i64 4, .int .i64 4, .slice (some ⟨g, 0, none⟩) 16 c] (Blk.new _ _ _) (by kernel_rfl) (by simp) (by simp [Value.oneCell']) rfl ?_; intro w5 X5 g5)
    | fail)
  have hz5 := g5.size
  simp only [World.size_alloc] at hz5
  have HB5 := Lib.hid (below_boxed HB1.out HB1.out.size g5)
  have R5 := Lib.hid (blk_boxed R1.out g5)
  have O5 : Hid (w5.ownsRow w.heap.size 4 1 (.slice (some ⟨g, 0, none⟩) 16 c) 16 ((List.replicate 0 true ++ List.replicate (16 - 0) false).map bv)) := own_base (base' := w.heap.size) (own_boxed O1.out g5) hsz0
  have HX5 := Lib.hid X5
  clear X5 g5 O1 R1 HB1
  refine (IS.out _).mono ?_
  rintro e w6 ⟨rfl, h6⟩
  obtain rfl := h6.symm
  go_wp2_with fail
  refine (isSeed5 _).mono ?_
  rintro e w6 ⟨rfl, h6⟩
  obtain rfl := h6.symm
  have x2 := HX5.out.cell 2
  go_wp2
  go_loopw [3, 38] (fun ss si wr => ∃ k s : Nat, k ≤ 16 ∧ si = .int .i64 (k : Int) ∧ ss = .int .i64 (s : Int) ∧ s ≤ 2147483647 ∧ Hid (wr.ownsRow w.heap.size 4 1 (.slice (some ⟨g, 0, none⟩) 16 c) 16 ((List.replicate k true ++ List.replicate (16 - k) false).map bv)) ∧ Hid (Blk wr w1.heap.size 26 #[.int .i64 4, .int .i64 4, .slice (some ⟨g, 0, none⟩) 16 c]) ∧
      Hid (Blk wr w.heap.size 26 #[.int .i64 0, .int .i64 0, .slice none 0 0]) ∧ Hid (Below w.heap.size w wr)) (fun _ i _ => 16 - (intOf i).toNat)
  case atStart => exact ⟨0, 5, by omega, rfl, rfl, by omega, O5, HX5, R5, HB5⟩
  case round =>
    obtain ⟨k, s, hk, rfl, rfl, hs, HO, HX, HR, HB⟩ := hrel
    clear O5 HX5 R5 HB5 x2
    by_cases hlt : k < 16
    · have DB := Lib.hid (drawBelow_any s 32768 wr hs (by omega))
      rw [show ((32768 : Nat) : Int) = 32768 from rfl] at DB
      have hkI : (k : Int) < 16 := by omega
      go_wp2_with fail
      refine DB.out.mono ?_
      rintro e w7 ⟨rfl, m, hw7⟩
      have HO7 : Hid (w7.ownsRow w.heap.size 4 1 (.slice (some ⟨g, 0, none⟩) 16 c) 16 ((List.replicate k true ++ List.replicate (16 - k) false).map bv)) := by rw [hw7]; exact HO
      have HX7 : Hid (Blk w7 w1.heap.size 26 #[.int .i64 4, .int .i64 4, .slice (some ⟨g, 0, none⟩) 16 c]) := by rw [hw7]; exact HX
      have HR7 : Hid (Blk w7 w.heap.size 26 #[.int .i64 0, .int .i64 0, .slice none 0 0]) := by rw [hw7]; exact HR
      have HB7 : Hid (Below w.heap.size w w7) := by rw [hw7]; exact ⟨HB.out.os, HB.out.tape, HB.out.output, HB.out.size, HB.out.block⟩
      have hd := drw_lt s (show 0 < 32768 by omega)
      have hs' := nxt_lt s
      have QD := QC.out (drw s 32768) hd
      have QI := rInt32 ((drw s 32768 : Nat) : Int)
      have x2 := HX7.out.cell 2
      have hll : (List.replicate k true ++ List.replicate (16 - k) false).length = 16 := by simp; omega
      have cB : ∃ q, w7.cell? ⟨g, k, none⟩ = some (.bool q) := ⟨_, by rw [HO7.out.cellAt _ (by omega), bv_at hll hlt]⟩
      obtain ⟨q, cB⟩ := cB
      have fB : w7.frozen? ⟨g, k, none⟩ = false := HO7.out.frozenAt _
      obtain ⟨ho8, hg8⟩ := HO7.out.stored k (.bool true)
      have X8 := Lib.hid (HX7.out.grown hg8 (own_blk_ne HO7.out HX7.out (by decide)))
      have R8 := Lib.hid (HR7.out.grown hg8 (own_blk_ne HO7.out HR7.out (by decide)))
      have B8 := Lib.hid (HB7.out.grown hg8 HB7.out.size (fun j e => by injection e with e; omega))
      have O8 : Hid ((w7.setCell ⟨g, k, none⟩ (.bool true)).ownsRow w.heap.size 4 1 (.slice (some ⟨g, 0, none⟩) 16 c) 16 ((List.replicate (k + 1) true ++ List.replicate (16 - (k + 1)) false).map bv)) := by
        rw [← drawn_set k hlt, List.map_set]; exact Lib.hid ho8
      clear ho8 hg8 hw7 HO HX HR HB HO7 HX7 HR7 HB7 hll DB
      generalize drw s 32768 = d at *
      generalize nxt s = s' at *
      generalize floatOfInt .f32 (d : Int) = fd at *
      go_wp2
      go_roundw
      case rel => exact ⟨k + 1, s', by omega, by go_num, rfl, hs', O8, X8, R8, B8⟩
      case measure => simp [intOf]; omega
    · obtain rfl : k = 16 := by omega
      have HOe : Hid (wr.ownsRow w.heap.size 4 1 (.slice (some ⟨g, 0, none⟩) 16 c) 16 ((List.replicate 16 true).map bv)) := HO
      have x0 := HX.out.cell 0
      have x1 := HX.out.cell 1
      have x2 := HX.out.cell 2
      go_wp2_with (first
        | (refine wpList_store_blk rfl _ _ _ rfl w.heap.size 0 rfl _ rfl [.int .i64 4, .int .i64 4, .slice (some ⟨g, 0, none⟩) 16 c] rfl 26 #[.int .i64 0, .int .i64 0, .slice none 0 0] #[.int .i64 4, .int .i64 4, .slice (some ⟨g, 0, none⟩) 16 c] HR.out (by kernel_rfl) (by simp) (by simp [Value.oneCell']) rfl ?_; intro w8 R8 g8)
        | fail)
      refine bodyPost_ret (results_row3 rfl _ w8 w.heap.size 26 _ _ rfl R8 Try.underlying26 rfl (by kernel_rfl) _ _ rfl rfl) rfl ?_
      exact ⟨g, c, _, hgw, rfl, own_grown' HOe.out g8 (own_blk_ne HOe.out HR.out (by decide)), HB.out.grown g8 HB.out.size (fun j e => by injection e with e; omega)⟩
end Go.Proofs.Ytejmpijihmmajaa
