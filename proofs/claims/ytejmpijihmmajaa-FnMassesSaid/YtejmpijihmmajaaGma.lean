/- Walks: EmptyField, FlipCells, SameField. Conditions: sides of 1 to 16, lists that increase and lie in the field. -/
import Derived.Test.YtejmpijihmmajaaGs
import Derived.Test.YtejmpijihmmajaaNb
import Derived.Test.YtejmpijihmmajaaTs
import Derived.Test.YtejmpijihmmajaaCp
import Derived.BigQuiet
namespace Go.Proofs.Ytejmpijihmmajaa
open Go.RowKit

theorem nv_get {D : List Nat} {l j : Nat} (h : D.length = l) (hj : j < l) : (D.map nv)[j]? = some (.int .i64 ((D.getD j 0 : Nat) : Int)) := by
  have hkl : j < D.length := by omega
  rw [List.getElem?_map, List.getElem?_eq_getElem hkl, List.getD_eq_getElem?_getD, List.getElem?_eq_getElem hkl]; rfl
theorem bv_at {cs : List Bool} {N k : Nat} (hl : cs.length = N) (h : k < N) : (cs.map bv)[k]? = some (.bool (cs.getD k false)) := by
  have h : k < cs.length := by omega
  rw [List.getElem?_map, List.getD_eq_getElem?_getD, List.getElem?_eq_getElem h]
  rfl
/-- Each number is greater than the one before. -/
def Inc (D : List Nat) : Prop := ∀ j, j + 1 < D.length → D.getD j 0 < D.getD (j + 1) 0
set_option maxRecDepth 100000 in
set_option maxHeartbeats 1000000 in
theorem isIncreasing_ok (A : Option Addr) (n c B : Nat) (D : List Nat) (w : World) (hn : n ≤ 1048576) (hl : D.length = n) (hB : B ≤ w.heap.size) (hA : Rd w B 1 A n (D.map nv)) (hi : Inc D) :
    Calls Try.prog 26 #[.slice A n c] w fun e w' => e = .returned (.bool true) ∧ Below w.heap.size w w' := by
  have HA := Lib.hid (hA.more hB)
  have HL := Lib.hid hl
  have HI := Lib.hid hi
  clear hA hl hi
  go_enter Try.func26, Try.ntmps26
  go_wp2
  go_loopw [6] (fun si wr => ∃ k : Nat, k ≤ n ∧ si = .int .i64 k ∧ Hid (Below w.heap.size w wr)) (fun i _ => n - (intOf i).toNat)
  case atStart => exact ⟨0, Nat.zero_le _, rfl, Lib.hid (Below.refl _ _)⟩
  case round =>
    obtain ⟨k, hk, rfl, HW⟩ := hrel
    have HA2 := Lib.hid (HA.out.below HW.out)
    by_cases hlt : k < n
    · obtain ⟨b, off, rfl, hbb, hc⟩ := HA2.out.2 (by omega)
      by_cases h0 : k = 0
      · subst h0
        go_wp2
        go_quiet (fail)
        go_wp2
        go_roundw
        case rel => exact ⟨1, by omega, by go_num, Lib.hid ⟨HW.out.os, HW.out.tape, HW.out.output, HW.out.size, HW.out.block⟩⟩
        case measure => simp [intOf]; omega
      · obtain ⟨j, hj⟩ : ∃ j, k = j + 1 := ⟨k - 1, by omega⟩
        have c1 := hc k _ (nv_get HL.out hlt)
        have c2 := hc j _ (nv_get HL.out (show j < n by omega))
        have hlt2 := HI.out j (by rw [HL.out]; omega)
        rw [← hj] at hlt2
        have e1 : (k : Int) - 1 = (j : Int) := by omega
        generalize D.getD k 0 = y at *
        generalize D.getD j 0 = x at *
        have hxy : (x : Int) < (y : Int) := by omega
        have hk0 : (0 : Int) < (k : Int) := by omega
        have hkN : 0 < k := by omega
        have HJ := Lib.hid hj
        clear hc hj
        go_wp2
        go_quiet (fail)
        go_wp2
        go_roundw
        case rel => exact ⟨k + 1, by omega, by go_num, Lib.hid ⟨HW.out.os, HW.out.tape, HW.out.output, HW.out.size, HW.out.block⟩⟩
        case measure => simp [intOf]; omega
    · obtain rfl : k = n := by omega
      go_wp2
      go_ret
      exact ⟨rfl, HW.out⟩
set_option maxRecDepth 100000 in
theorem within_ok (x a b : Int) (h1 : a ≤ x) (h2 : x ≤ b) (w : World) : Calls Try.prog 41 #[.int .i64 x, .int .i64 a, .int .i64 b] w fun e w' => e = .returned (.bool true) ∧ w' = w := by
  go_enter Try.func41, Try.ntmps41
  go_wp2
  go_ret
  simp
set_option maxRecDepth 100000 in
theorem indexNone_w (A : Option Addr) (n c : Nat) (D : List Nat) (p1 p2 : Addr) (w : World) (hn : n ≤ 1048576) (hl : D.length = n) (hA : Rd w w.heap.size 1 A n (D.map nv))
    (hp : ∀ x ∈ D, Calls Try.prog 43 #[.int .i64 (x : Int), .pointer (some p1), .pointer (some p2)] w fun e w' => e = .returned (.bool false) ∧ w' = w) :
    Calls Try.prog 51 #[.slice A n c, .func (.func 43) #[] #[.pointer (some p1), .pointer (some p2)]] w fun e w' => e = .returned (.int .i64 (-1)) ∧ w' = w := by
  have HA := Lib.hid hA
  have HL := Lib.hid hl
  have HPP := Lib.hid hp
  clear hA hl hp
  go_enter Try.func51, Try.ntmps51
  go_wp2
  go_loop [8] (fun si => ∃ k : Nat, k ≤ n ∧ si = .int .i64 k) (fun i => n - (intOf i).toNat)
  case atStart => exact ⟨0, Nat.zero_le _, rfl⟩
  case round =>
    obtain ⟨k, hk, rfl⟩ := hrel
    by_cases hlt : k < n
    · obtain ⟨b, off, rfl, hbb, hc⟩ := HA.out.2 (by omega)
      have cY := hc k _ (nv_get HL.out hlt)
      have PY := Lib.hid (HPP.out (D.getD k 0) (by
        have hkl : k < D.length := by rw [HL.out]; exact hlt
        rw [List.getD_eq_getElem?_getD, List.getElem?_eq_getElem hkl]
        exact List.getElem_mem hkl))
      clear hc
      generalize D.getD k 0 = y at *
      have hkI : (k : Int) < (n : Int) := Int.ofNat_lt.mpr hlt
      go_wp2_with (go_at_call 43; refine PY.out.mono ?_; rintro e w5 ⟨rfl, hw5⟩; obtain rfl := hw5.symm)
      go_round
      case rel => exact ⟨k + 1, by omega, by go_num⟩
      case measure => simp [intOf]; omega
    · obtain rfl : k = n := by omega
      go_wp2
      go_ret
      simp
set_option maxRecDepth 100000 in
theorem containsNone_w (A : Option Addr) (n c : Nat) (D : List Nat) (p1 p2 : Addr) (w : World) (hn : n ≤ 1048576) (hl : D.length = n) (hA : Rd w w.heap.size 1 A n (D.map nv))
    (hp : ∀ x ∈ D, Calls Try.prog 43 #[.int .i64 (x : Int), .pointer (some p1), .pointer (some p2)] w fun e w' => e = .returned (.bool false) ∧ w' = w) :
    Calls Try.prog 42 #[.slice A n c, .func (.func 43) #[] #[.pointer (some p1), .pointer (some p2)]] w fun e w' => e = .returned (.bool false) ∧ w' = w := by
  have IC := Lib.hid (indexNone_w A n c D p1 p2 w hn hl hA hp)
  clear hl hA hp
  go_enter Try.func42, Try.ntmps42
  go_wp2_with fail
  refine IC.out.mono ?_
  rintro e w1 ⟨rfl, rfl⟩
  go_wp2
  go_ret
  simp
set_option maxRecDepth 100000 in
theorem areWithin_w (A : Option Addr) (n c N : Nat) (D : List Nat) (w : World) (hn : n ≤ 1048576) (hl : D.length = n) (hA : Rd w w.heap.size 1 A n (D.map nv)) (hD : ∀ x ∈ D, x < N) (hN : 1 ≤ N) (hN4 : N ≤ 256) :
    Calls Try.prog 27 #[.slice A n c, .int .i64 0, .int .i64 ((N : Int) - 1)] w fun e w' => e = .returned (.bool true) ∧ Below w.heap.size w w' := by
  obtain ⟨m, hm⟩ : ∃ m : Int, (N : Int) - 1 = m := ⟨_, rfl⟩
  rw [hm]
  have HD := Lib.hid hD
  have HA := Lib.hid hA
  have HL := Lib.hid hl
  have HM := Lib.hid hm
  clear hD hA hl hm hN hN4
  have hb0 : ∀ o o', Below w.heap.size w ((w.alloc o).alloc o') := fun o o' => ((Below.refl _ _).alloc (Nat.le_refl _) _).alloc (by simp) _
  have H0 := Lib.hid hb0
  have CC : Hid (∀ o o' x, o = Obj.cells #[.int .i64 0] 2 → o' = Obj.cells #[.int .i64 m] 2 → x ∈ D → Calls Try.prog 43 #[.int .i64 (x : Int), .pointer (some ⟨w.heap.size, 0, none⟩), .pointer (some ⟨w.heap.size + 1, 0, none⟩)] ((w.alloc o).alloc o') fun e w' => e = .returned (.bool false) ∧ w' = ((w.alloc o).alloc o')) := by
    refine Lib.hid ?_
    rintro o o' x rfl rfl hx
    have WI := Lib.hid (fun w => within_ok (x : Int) 0 m (by omega) (by have := HD.out x hx; have := HM.out; omega) w)
    have b0 : Blk ((w.alloc (.cells #[.int .i64 0] 2)).alloc (.cells #[.int .i64 m] 2)) w.heap.size 2 #[.int .i64 0] := (Blk.new w _ _).alloc _
    have b1 : Blk ((w.alloc (.cells #[.int .i64 0] 2)).alloc (.cells #[.int .i64 m] 2)) (w.heap.size + 1) 2 #[.int .i64 m] := by
      have := Blk.new (w.alloc (.cells #[.int .i64 0] 2)) 2 #[.int .i64 m]
      simpa using this
    have c0 := b0.cell 0
    have c1 := b1.cell 0
    generalize ((w.alloc (.cells #[.int .i64 0] 2)).alloc (.cells #[.int .i64 m] 2)) = w2 at *
    clear b0 b1 hx
    simp at c0 c1
    go_enter Try.func43, Try.ntmps43
    go_wp2_with fail
    refine (WI.out _).mono ?_
    rintro e w3 ⟨rfl, rfl⟩
    go_wp2
    go_ret
    simp
  have KC := Lib.hid (fun o o' h h' => containsNone_w A n c D ⟨w.heap.size, 0, none⟩ ⟨w.heap.size + 1, 0, none⟩ _ hn HL.out ((HA.out.below (H0.out o o')).more (H0.out o o').size) (fun x hx => CC.out o o' x h h' hx))
  clear hb0 CC
  go_enter Try.func27, Try.ntmps27
  go_wp2_with fail
  refine (KC.out _ _ rfl rfl).mono ?_
  rintro e w1 ⟨rfl, rfl⟩
  go_wp2
  go_ret
  exact ⟨rfl, H0.out _ _⟩
end Go.Proofs.Ytejmpijihmmajaa
