/- Walks: isSide, areTurns, slices.Equal on truth values, BoxStep. Conditions: sides of 1 to 8, as the reference draws the maps. -/
import Derived.Test.YtbpgbplepebcjaaBd
import Derived.Test.YtbpgbplepebcjaaMq
namespace Go.Proofs.Ytbpgbplepebcjaa
open Go.RowKit
open Num Quick

set_option maxRecDepth 100000 in
theorem isSide_ok (s : Nat) (h1 : 1 ≤ s) (h2 : s ≤ 16) (w : World) : Calls Try.prog 62 #[.int .i64 (s : Int)] w fun e w' => e = .returned (.bool true) ∧ w' = w := by
  have W1 : Hid (∀ w : World, Calls Try.prog 67 #[.int .i64 (s : Int), .int .i64 1, .int .i64 16] w fun e w' => e = .returned (.bool true) ∧ w' = w) := fun w => by
    have a1 : (1 : Int) ≤ (s : Int) := by omega
    have a2 : (s : Int) ≤ 16 := by omega
    go_enter Try.func67, Try.ntmps67
    go_wp2
    go_ret
    simp
  go_enter Try.func62, Try.ntmps62
  go_wp2_with fail
  refine (W1.out _).mono ?_
  rintro e w1 ⟨rfl, rfl⟩
  go_wp2
  go_ret
  simp
set_option maxRecDepth 100000 in
theorem areTurns_ok (s : Nat) (h2 : s ≤ 128) (w : World) : Calls Try.prog 63 #[.int .i64 (s : Int)] w fun e w' => e = .returned (.bool true) ∧ w' = w := by
  have W1 : Hid (∀ w : World, Calls Try.prog 67 #[.int .i64 (s : Int), .int .i64 0, .int .i64 128] w fun e w' => e = .returned (.bool true) ∧ w' = w) := fun w => by
    have a1 : (0 : Int) ≤ (s : Int) := by omega
    have a2 : (s : Int) ≤ 128 := by omega
    go_enter Try.func67, Try.ntmps67
    go_wp2
    go_ret
    simp
  go_enter Try.func63, Try.ntmps63
  go_wp2_with fail
  refine (W1.out _).mono ?_
  rintro e w1 ⟨rfl, rfl⟩
  go_wp2
  go_ret
  simp
set_option maxRecDepth 100000 in
set_option maxHeartbeats 1000000 in
theorem equalB_any (A A' : Option Addr) (n c c' : Nat) (xs ys : List Bool) (w : World) (hn : n ≤ 1048576) (hlx : xs.length = n) (hly : ys.length = n)
    (hA : Rd w w.heap.size 1 A n (xs.map bv)) (hA' : Rd w w.heap.size 1 A' n (ys.map bv)) :
    Calls Try.prog 66 #[.slice A n c, .slice A' n c'] w fun e w' => e = .returned (.bool (decide (xs = ys))) ∧ Below w.heap.size w w' := by
  go_enter Try.func66, Try.ntmps66
  go_wp2
  go_loopw [13] (fun i wr => ∃ k : Nat, k ≤ n ∧ i = .int .i64 k ∧ Hid (∀ j, j < k → xs.getD j false = ys.getD j false) ∧ Below w.heap.size w wr) (fun i _ => n - (intOf i).toNat)
  case atStart => exact ⟨0, Nat.zero_le _, rfl, fun j h => absurd h (by omega), Below.refl _ _⟩
  case round =>
    obtain ⟨k, hk, rfl, HE, hb⟩ := hrel
    by_cases hlt : k < n
    · obtain ⟨b, off, rfl, hbb, hc⟩ := hA.2 (by omega)
      obtain ⟨b', off', rfl, hbb', hc'⟩ := hA'.2 (by omega)
      have hkl : k < xs.length := by omega
      have hkl' : k < ys.length := by omega
      have ex : (xs.map bv)[k]? = some (.bool (xs.getD k false)) := by rw [List.getElem?_map, List.getElem?_eq_getElem hkl, List.getD_eq_getElem?_getD, List.getElem?_eq_getElem hkl]; rfl
      have ey : (ys.map bv)[k]? = some (.bool (ys.getD k false)) := by rw [List.getElem?_map, List.getElem?_eq_getElem hkl', List.getD_eq_getElem?_getD, List.getElem?_eq_getElem hkl']; rfl
      have c1 : wr.cell? ⟨b, off + k, none⟩ = some (.bool (xs.getD k false)) := (hb.cell hbb).trans (hc _ _ ex)
      have c3 : wr.cell? ⟨b', off' + k, none⟩ = some (.bool (ys.getD k false)) := (hb.cell hbb').trans (hc' _ _ ey)
      have HN : Hid (xs.getD k false = ys.getD k false → ∀ j, j < k + 1 → xs.getD j false = ys.getD j false) := Lib.hid fun h j hj => by
        rcases Nat.lt_or_eq_of_le (Nat.le_of_lt_succ hj) with c | c
        · exact HE.out j c
        · rw [c]; exact h
      have HD : Hid (xs.getD k false ≠ ys.getD k false → xs ≠ ys) := Lib.hid fun h e => h (by rw [e])
      clear hc hc' ex ey
      generalize xs.getD k false = p at *
      generalize ys.getD k false = q at *
      have Hb := Lib.hid hb
      have hk0 : (0 : Int) ≤ (k : Int) := by omega
      have hk1 : (k : Int) < (n : Int) := by omega
      clear hb hlx hly
      by_cases hpq : p = q
      · have HN' := Lib.hid (HN.out hpq)
        subst hpq
        go_wp2
        go_quiet (fail)
        go_wp2
        go_roundw
        case rel => exact ⟨k + 1, by omega, by go_num, HN', ⟨Hb.out.os, Hb.out.tape, Hb.out.output, Hb.out.size, Hb.out.block⟩⟩
        case measure => simp [intOf]; omega
      · have HF : Hid (decide (xs = ys) = false) := Lib.hid (by simpa using HD.out hpq)
        have hne : (p == q) = false := by simpa using hpq
        go_wp2
        go_quiet (fail)
        go_wp2
        go_ret
        exact ⟨by rw [HF.out]; rfl, ⟨Hb.out.os, Hb.out.tape, Hb.out.output, Hb.out.size, Hb.out.block⟩⟩
    · obtain rfl : k = n := by omega
      have Hb := Lib.hid hb
      have HT : Hid (decide (xs = ys) = true) := Lib.hid (by
        rw [decide_eq_true_eq]
        exact list_ext hlx hly fun j hj => by rw [HE.out j hj])
      clear hb hlx hly
      go_wp2
      go_ret
      exact ⟨by rw [HT.out]; rfl, Hb.out⟩
set_option maxRecDepth 100000 in
set_option maxHeartbeats 1000000 in
theorem BoxStep_w (L : List Sm) (N side n : Nat) (M : List Bool) (A AM : Option Addr) (c cM : Nat) (w : World) (hL : L.length = N) (hN : N = 1 ∨ N = 2 ∨ N = 4) (hok : ∀ x ∈ L, x.ok N) (h1 : 1 ≤ side) (h8 : side ≤ 8) (hn : side * side = n) (hlM : M.length = n)
    (hR : Rd w w.heap.size 4 A N (smCells L)) (hM : Rd w w.heap.size 1 AM n (M.map bv)) :
    Calls Try.prog 20 #[.slice A N c, .slice AM n cM, .int .i64 (side : Int)] w fun e w' => ∃ g, w.heap.size ≤ g ∧ e = .returned (.tuple #[.slice (some ⟨g, 0, none⟩) n n, .bool true]) ∧ w'.ownsRow w.heap.size 4 1 (.slice (some ⟨g, 0, none⟩) n n) n ((imgOf L side M).map bv) ∧ Below w.heap.size w w' := by
  have AS := Lib.hid (areSmalls_ok L N A c w hL hN hok hR)
  have IS := Lib.hid (isSide_ok side h1 (by omega))
  have BS := Lib.hid (fun w1 (hb : Below w.heap.size w w1) => boxStep_w L N side n M A AM c cM w1 hL (by omega) (by omega) hok h1 h8 hn hlM ((hR.below hb).more hb.size) ((hM.below hb).more hb.size))
  have hnn : (side : Int) * (side : Int) = (n : Int) := by rw [← hn]; simp
  have hn64 : n ≤ 64 := by rw [← hn]; exact Nat.mul_le_mul h8 h8
  clear hL hN hok hn hlM hR hM
  go_enter Try.func20, Try.ntmps20
  go_wp2_with fail
  refine AS.out.mono ?_
  rintro e w1 ⟨rfl, hb1⟩
  have B1 := Lib.hid hb1
  clear hb1
  go_wp2_with fail
  refine (IS.out _).mono ?_
  rintro e w2 ⟨rfl, hw⟩
  obtain rfl := hw.symm
  clear hw
  go_wp2_with fail
  refine (BS.out _ B1.out).mono ?_
  rintro e w3 ⟨rfl, ho, hb⟩
  have O3 := Lib.hid ho
  have B3 := Lib.hid (B1.out.trans (hb.mono B1.out.size))
  have S1 := Lib.hid B1.out.size
  clear ho hb
  go_wp2
  go_ret2
  exact ⟨_, S1.out, rfl, own_base O3.out S1.out, B3.out⟩
end Go.Proofs.Ytbpgbplepebcjaa
