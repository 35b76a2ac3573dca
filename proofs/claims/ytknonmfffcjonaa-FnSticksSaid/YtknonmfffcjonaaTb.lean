/- Walks: whether fields are the same, by the program and by the reference, where they are. Conditions: lists shorter than 2^63. -/
import Derived.Test.YtknonmfffcjonaaLb
import Derived.Deep.QuietTactic
import Derived.BigQuiet
namespace Go.Proofs.Ytknonmfffcjonaa
open Go.RowKit

set_option maxRecDepth 100000 in
set_option maxHeartbeats 400000 in
theorem equalB_same (A A' : Option Addr) (n c c' B : Nat) (xs : List Bool) (w : World) (hn : n ≤ maxLen) (hB : B ≤ w.heap.size)
    (hA : Rd w B 1 A n (xs.map bv)) (hA' : Rd w B 1 A' n (xs.map bv)) :
    Calls Try.prog 43 #[.slice A n c, .slice A' n c'] w fun e w' => e = .returned (.bool true) ∧ Below w.heap.size w w' := by
  unfold maxLen at hn
  have hl : xs.length = n := by have := hA.len; simpa using this
  go_enter Try.func43, Try.ntmps43
  go_wp2
  go_loopw [13] (fun i wr => ∃ k : Nat, k ≤ n ∧ i = .int .i64 k ∧ Below w.heap.size w wr) (fun i _ => n - (intOf i).toNat)
  case atStart => exact ⟨0, Nat.zero_le _, rfl, Below.refl _ _⟩
  case round =>
    obtain ⟨k, hk, rfl, hb⟩ := hrel
    by_cases hlt : k < n
    · obtain ⟨b, off, rfl, hbb, hc⟩ := hA.2 (by omega)
      obtain ⟨b', off', rfl, hbb', hc'⟩ := hA'.2 (by omega)
      have hkl : k < xs.length := by omega
      have ex : (xs.map bv)[k]? = some (.bool xs[k]) := by rw [List.getElem?_map, List.getElem?_eq_getElem hkl]; rfl
      have c1 : wr.cell? ⟨b, off + k, none⟩ = some (.bool xs[k]) := (hb.cell (show b < w.heap.size by omega)).trans (hc _ _ ex)
      have c3 : wr.cell? ⟨b', off' + k, none⟩ = some (.bool xs[k]) := (hb.cell (show b' < w.heap.size by omega)).trans (hc' _ _ ex)
      clear hc hc' ex
      generalize xs[k] = p at *
      have Hb := Lib.hid hb
      have hk0 : (0 : Int) ≤ (k : Int) := by omega
      have hk1 : (k : Int) < (n : Int) := by omega
      go_wp2
      go_quiet (fail)
      go_wp2
      go_roundw
      case rel => exact ⟨k + 1, by omega, by go_num, ⟨Hb.out.os, Hb.out.tape, Hb.out.output, Hb.out.size, Hb.out.block⟩⟩
      case measure => simp [intOf]; omega
    · go_wp2
      go_ret
      exact ⟨rfl, hb⟩
set_option maxRecDepth 100000 in
set_option maxHeartbeats 400000 in
theorem SameField_same (wd hi : Int) (A A' : Option Addr) (n c c' B : Nat) (xs : List Bool) (w : World) (hn : n ≤ maxLen) (hB : B ≤ w.heap.size)
    (hA : Rd w B 1 A n (xs.map bv)) (hA' : Rd w B 1 A' n (xs.map bv)) :
    Calls Try.prog 20 #[fieldV wd hi A n c, fieldV wd hi A' n c'] w fun e w' => e = .returned (.bool true) ∧ Below w.heap.size w w' := by
  have hb0 : ∀ o o', Below w.heap.size w ((w.alloc o).alloc o') := fun o o' => ((Below.refl _ _).alloc (Nat.le_refl _) _).alloc (by simp) _
  have H0 := Lib.hid hb0
  clear hb0
  unfold fieldV
  go_enter Try.func20, Try.ntmps20
  go_wp2_with fail
  refine (equalB_same A A' n c c' B xs _ hn (by simp; omega) ((hA.below ((H0.out _ _).mono hB))) ((hA'.below ((H0.out _ _).mono hB)))).mono ?_
  rintro e w1 ⟨rfl, hb1⟩
  go_wp2
  go_ret
  exact ⟨rfl, (H0.out _ _).trans (hb1.mono (by simp; omega))⟩
set_option maxRecDepth 100000 in
set_option maxHeartbeats 1000000 in
theorem l07Same_same (W H : Int) (A A' : Option Addr) (n c c' g g' B : Nat) (xs : List Bool) (w : World) (hn : n ≤ maxLen) (hB : B ≤ w.heap.size)
    (hg : Blk w g 26 #[.int .i64 W, .int .i64 H, .slice A n c]) (hg' : Blk w g' 26 #[.int .i64 W, .int .i64 H, .slice A' n c'])
    (hA : Rd w B 1 A n (xs.map bv)) (hA' : Rd w B 1 A' n (xs.map bv)) :
    Calls Try.prog 41 #[.pointer (some ⟨g, 0, none⟩), .pointer (some ⟨g', 0, none⟩)] w fun e w' => e = .returned (.bool true) ∧ Below w.heap.size w w' := by
  unfold maxLen at hn
  have hl : xs.length = n := by have := hA.len; simpa using this
  have hgl := hg.lt
  have hgl' := hg'.lt
  have KC : Hid (∀ w', Below w.heap.size w w' → (w'.cell? ⟨g, 0, none⟩ = some (.int .i64 W) ∧ w'.cell? ⟨g, 1, none⟩ = some (.int .i64 H) ∧ w'.cell? ⟨g, 2, none⟩ = some (.slice A n c)) ∧ w'.cell? ⟨g', 0, none⟩ = some (.int .i64 W) ∧ w'.cell? ⟨g', 1, none⟩ = some (.int .i64 H) ∧ w'.cell? ⟨g', 2, none⟩ = some (.slice A' n c')) :=
    fun w' h => ⟨⟨(h.cell hgl).trans (hg.cell 0), (h.cell hgl).trans (hg.cell 1), (h.cell hgl).trans (hg.cell 2)⟩, (h.cell hgl').trans (hg'.cell 0), (h.cell hgl').trans (hg'.cell 1), (h.cell hgl').trans (hg'.cell 2)⟩
  obtain ⟨⟨d0, d1, d2⟩, d3, d4, d5⟩ := KC.out w (Below.refl _ _)
  have HA := Lib.hid hA
  have HA' := Lib.hid hA'
  have HL := Lib.hid hl
  clear hA hA' hl hg hg'
  have hWW : decide (W = W) = true := by simp
  have hHH : decide (H = H) = true := by simp
  go_enter Try.func41, Try.ntmps41
  go_wp2
  go_quiet (fail)
  go_wp2
  go_loopw [5, 44] (fun si st wr => ∃ (k : Nat) , k ≤ n ∧ st = .int .i64 k ∧ Below w.heap.size w wr) (fun _ i _ => n - (intOf i).toNat)
  case atStart => exact ⟨0, Nat.zero_le _, rfl, ⟨rfl, rfl, rfl, Nat.le_refl _, fun _ _ => rfl⟩⟩
  case round =>
    clear d0 d1 d2 d3 d4 d5
    obtain ⟨k, hk, rfl, hb⟩ := hrel
    by_cases hlt : k < n
    · obtain ⟨b, off, rfl, hbb, hc⟩ := HA.out.2 (by omega)
      obtain ⟨b', off', rfl, hbb', hc'⟩ := HA'.out.2 (by omega)
      obtain ⟨⟨d0, d1, d2⟩, d3, d4, d5⟩ := KC.out wr hb
      have hkl : k < xs.length := by rw [HL.out]; omega
      have ex : (xs.map bv)[k]? = some (.bool xs[k]) := by rw [List.getElem?_map, List.getElem?_eq_getElem hkl]; rfl
      have c1 : wr.cell? ⟨b, off + k, none⟩ = some (.bool xs[k]) := (hb.cell (show b < w.heap.size by omega)).trans (hc _ _ ex)
      have c3 : wr.cell? ⟨b', off' + k, none⟩ = some (.bool xs[k]) := (hb.cell (show b' < w.heap.size by omega)).trans (hc' _ _ ex)
      clear hc hc' ex
      generalize xs[k] = p at *
      have Hb := Lib.hid hb
      have hk0 : (0 : Int) ≤ (k : Int) := by omega
      have hk1 : (k : Int) < (n : Int) := by omega
      clear hb
      cases p <;> (
        go_wp2
        go_quiet (fail)
        go_wp2
        go_roundw
        case rel => exact ⟨k + 1, by omega, by go_num, ⟨Hb.out.os, Hb.out.tape, Hb.out.output, Hb.out.size, Hb.out.block⟩⟩
        case measure => simp [intOf]; omega)
    · go_wp2
      go_ret
      exact ⟨rfl, hb⟩
set_option maxRecDepth 100000 in
set_option maxHeartbeats 400000 in
theorem specSame_same (wd hi : Int) (A A' : Option Addr) (n c c' B : Nat) (xs : List Bool) (w : World) (hn : n ≤ maxLen) (hB : B ≤ w.heap.size)
    (hA : Rd w B 1 A n (xs.map bv)) (hA' : Rd w B 1 A' n (xs.map bv)) :
    Calls Try.prog 17 #[fieldV wd hi A n c, fieldV wd hi A' n c'] w fun e w' => e = .returned (.bool true) ∧ Below w.heap.size w w' := by
  obtain ⟨v, ev⟩ : ∃ v, v = (w.alloc (.cells #[.int .i64 wd, .int .i64 hi, .slice A n c] 26)).alloc (.cells #[.int .i64 wd, .int .i64 hi, .slice A' n c'] 26) := ⟨_, rfl⟩
  have B0 : Hid (Below w.heap.size w v) := by rw [ev]; exact ((Below.refl _ _).alloc (Nat.le_refl _) _).alloc (by simp) _
  have b1 : Blk v w.heap.size 26 #[.int .i64 wd, .int .i64 hi, .slice A n c] := by rw [ev]; exact (Blk.new w _ _).alloc _
  have b2 : Blk v (w.heap.size + 1) 26 #[.int .i64 wd, .int .i64 hi, .slice A' n c'] := by rw [ev]; exact Blk.new2 _ _ _ _
  have hz := B0.out.size
  have SC := Lib.hid (l07Same_same wd hi A A' n c c' w.heap.size (w.heap.size + 1) w.heap.size xs v hn hz b1 b2 ((hA.more hB).below B0.out) ((hA'.more hB).below B0.out))
  have EV := Lib.hid ev
  clear b1 b2 ev hA hA'
  unfold fieldV
  go_enter Try.func17, Try.ntmps17
  go_wp2_with fail
  rw [← EV.out]
  refine SC.out.mono ?_
  rintro e w1 ⟨rfl, hb1⟩
  go_wp2
  go_ret
  exact ⟨rfl, B0.out.trans (hb1.mono hz)⟩
end Go.Proofs.Ytknonmfffcjonaa
