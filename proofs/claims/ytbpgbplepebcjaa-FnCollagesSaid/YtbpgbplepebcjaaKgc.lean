/- Walks: lists of small points, NearestTo, FarOf. Conditions: 1 to 256 points with finite parts of at most 1000. -/
import Derived.Test.YtbpgbplepebcjaaKgb
namespace Go.Proofs.Ytbpgbplepebcjaa
open Go.RowKit
open Num Quick
attribute [local go_sem] run_store_fl run_store_cx

theorem small1 {z : Nat × Nat} (hz : PlOk z) (w : World) : Calls Try.prog 106 #[.complex .f32 z.1 z.2] w fun e w' => e = .returned (.bool false) ∧ w' = w := by
  have SM := Lib.hid (fun w => isSmall_num hz.1 hz.2.1 hz.2.2.1 hz.2.2.2 w)
  clear hz
  go_enter Try.func106, Try.ntmps106
  go_wp2_with fail
  refine (SM.out _).mono ?_
  rintro e w1 ⟨rfl, rfl⟩
  go_wp2
  go_ret
  exact ⟨rfl, rfl⟩
set_option maxRecDepth 100000 in
theorem indexSmall (P : List (Nat × Nat)) (A : Option Addr) (n c : Nat) (w : World) (hl : P.length = n) (hn2 : n ≤ 256) (hP : ∀ p ∈ P, PlOk p) (hA : Rd w w.heap.size 1 A n (P.map cxv)) :
    Calls Try.prog 122 #[.slice A n c, .func (.func 106) #[] #[]] w fun e w' => e = .returned (.int .i64 (-1)) ∧ w' = w := by
  have HA := Lib.hid hA
  have HL := Lib.hid hl
  have HPP := Lib.hid hP
  clear hA hl hP
  go_enter Try.func122, Try.ntmps122
  go_wp2
  go_loop [8] (fun si => ∃ k : Nat, k ≤ n ∧ si = .int .i64 k) (fun i => n - (intOf i).toNat)
  case atStart => exact ⟨0, Nat.zero_le _, rfl⟩
  case round =>
    obtain ⟨k, hk, rfl⟩ := hrel
    by_cases hlt : k < n
    · obtain ⟨b, off, rfl, hbb, hc⟩ := HA.out.2 (by omega)
      have cY := hc k _ (cxv_at HL.out hlt)
      have PY := Lib.hid (small1 (HPP.out _ (pl_mem HL.out hlt)))
      clear hc
      generalize P.getD k (0, 0) = y at *
      obtain ⟨y1, y2⟩ := y
      simp only at cY PY
      have hkI : (k : Int) < (n : Int) := Int.ofNat_lt.mpr hlt
      go_wp2_with (go_at_call 106; refine (PY.out _).mono ?_; rintro e w5 ⟨rfl, hw5⟩; obtain rfl := hw5.symm)
      go_round
      case rel => exact ⟨k + 1, by omega, by go_num⟩
      case measure => simp [intOf]; omega
    · obtain rfl : k = n := by omega
      go_wp2
      go_ret
      simp
theorem areSmall_w (P : List (Nat × Nat)) (A : Option Addr) (n c : Nat) (w : World) (hl : P.length = n) (hn2 : n ≤ 256) (hP : ∀ p ∈ P, PlOk p) (hA : Rd w w.heap.size 1 A n (P.map cxv)) :
    Calls Try.prog 78 #[.slice A n c] w fun e w' => e = .returned (.bool true) ∧ w' = w := by
  have IC := Lib.hid (indexSmall P A n c w hl hn2 hP hA)
  have CC : Hid (Calls Try.prog 105 #[.slice A n c, .func (.func 106) #[] #[]] w fun e w' => e = .returned (.bool false) ∧ w' = w) := by
    refine Lib.hid ?_
    clear hl hP hA
    go_enter Try.func105, Try.ntmps105
    go_wp2_with fail
    refine IC.out.mono ?_
    rintro e w1 ⟨rfl, rfl⟩
    go_wp2
    go_ret
    simp
  clear hl hP hA IC
  go_enter Try.func78, Try.ntmps78
  go_wp2_with fail
  refine CC.out.mono ?_
  rintro e w1 ⟨rfl, rfl⟩
  go_wp2
  go_ret
  exact ⟨rfl, rfl⟩
theorem here_w (P : List (Nat × Nat)) (A : Option Addr) (n c : Nat) (w : World) (hl : P.length = n) (hn : 1 ≤ n) (hn2 : n ≤ 256) (hP : ∀ p ∈ P, PlOk p) (hA : Rd w w.heap.size 1 A n (P.map cxv)) :
    Calls Try.prog 76 #[.slice A n c] w fun e w' => e = .returned (.bool true) ∧ w' = w := by
  have SC := Lib.hid (areSmall_w P A n c w hl hn2 hP hA)
  have h1 : (1 : Int) ≤ (n : Int) := by omega
  have h2 : (n : Int) ≤ 256 := by omega
  clear hl hP hA
  go_enter Try.func76, Try.ntmps76
  go_wp2_with fail
  refine SC.out.mono ?_
  rintro e w1 ⟨rfl, rfl⟩
  go_wp2
  go_ret
  exact ⟨rfl, rfl⟩
theorem nearT_ok {P : List (Nat × Nat)} {z : Nat × Nat} {n : Nat} (hl : P.length = n) (hn : 1 ≤ n) (hP : ∀ p ∈ P, PlOk p) (hz : PlOk z) :
    (nearT P z).1 < n ∧ (nearT P z).2 = dst z (P.getD (nearT P z).1 (0, 0)) ∧ (∀ j < n, (nearT P z).2 ≤ dst z (P.getD j (0, 0))) ∧ (nearT P z).2 < 2139095040 := by
  obtain ⟨h1, h2, h3, _⟩ := bestI_ok (fun j => dst z (P.getD j (0, 0))) P.length
  have hlt : (nearT P z).1 < n := by unfold nearT; omega
  refine ⟨hlt, h1, fun j hj => h3 j (by omega), ?_⟩
  have e : (nearT P z).2 = dst z (P.getD (nearT P z).1 (0, 0)) := h1
  rw [e]
  exact dst_lt hz (hP _ (pl_mem hl hlt))
theorem nearestTo_w (P : List (Nat × Nat)) (z : Nat × Nat) (A : Option Addr) (n c : Nat) (w : World) (hl : P.length = n) (hn : 1 ≤ n) (hn2 : n ≤ 256) (hP : ∀ p ∈ P, PlOk p) (hz : PlOk z) (hA : Rd w w.heap.size 1 A n (P.map cxv)) :
    Calls Try.prog 36 #[.slice A n c, .complex .f32 z.1 z.2] w fun e w' => e = .returned (.tuple #[.int .i64 ((nearT P z).1 : Nat), .float .f32 (nearT P z).2, .bool true]) ∧ w' = w := by
  have HC := Lib.hid (here_w P A n c w hl hn hn2 hP hA)
  have NC := Lib.hid (nearest_w P z A n c w hl hn hn2 hP hz hA)
  have SM := Lib.hid (fun w => isSmall_num hz.1 hz.2.1 hz.2.2.1 hz.2.2.2 w)
  clear hl hP hA hz
  obtain ⟨z1, z2⟩ := z
  simp only at NC SM ⊢
  generalize nearT P (z1, z2) = t at *
  obtain ⟨t1, t2⟩ := t
  simp only at NC ⊢
  go_enter Try.func36, Try.ntmps36
  go_wp2_with fail
  refine HC.out.mono ?_
  rintro e w5 ⟨rfl, hw5⟩
  obtain rfl := hw5.symm
  go_wp2_with fail
  refine (SM.out _).mono ?_
  rintro e w5 ⟨rfl, hw5⟩
  obtain rfl := hw5.symm
  go_wp2_with fail
  refine NC.out.mono ?_
  rintro e w5 ⟨rfl, hw5⟩
  obtain rfl := hw5.symm
  go_wp2
  go_ret3
  exact ⟨rfl, rfl⟩
/-- The greatest of the first k numbers. -/
def maxTo (f : Nat → Nat) : Nat → Nat
  | 0 => 0
  | k + 1 => max (maxTo f k) (f k)
theorem maxTo_ge (f : Nat → Nat) : ∀ {n k : Nat}, k < n → f k ≤ maxTo f n
  | n + 1, k, h => by
    unfold maxTo
    by_cases e : k = n
    · rw [e]; exact Nat.le_max_right _ _
    · exact Nat.le_trans (maxTo_ge f (n := n) (k := k) (by omega)) (Nat.le_max_left _ _)
theorem maxTo_lt {f : Nat → Nat} {B : Nat} (hB : 0 < B) : ∀ {n : Nat}, (∀ k < n, f k < B) → maxTo f n < B
  | 0, _ => hB
  | n + 1, h => by
    unfold maxTo
    have h1 := maxTo_lt hB (f := f) (n := n) (fun k hk => h k (by omega))
    have h2 := h n (Nat.lt_succ_self _)
    omega
theorem maxTo_zero {f : Nat → Nat} : ∀ {n : Nat}, (∀ k < n, f k = 0) → maxTo f n = 0
  | 0, _ => rfl
  | n + 1, h => by
    unfold maxTo
    rw [maxTo_zero (f := f) (n := n) (fun k hk => h k (by omega)), h n (Nat.lt_succ_self _)]
    rfl
/-- How far the points of P are from those of Q at most. -/
noncomputable def toFar (P Q : List (Nat × Nat)) (k : Nat) : Nat := maxTo (fun i => (nearT Q (P.getD i (0, 0))).2) k
noncomputable def farN (P Q : List (Nat × Nat)) : Nat := max (toFar P Q P.length) (toFar Q P Q.length)
theorem farN_comm (P Q : List (Nat × Nat)) : farN P Q = farN Q P := Nat.max_comm _ _
theorem toFar_lt {P Q : List (Nat × Nat)} {n m k : Nat} (hl : P.length = n) (hl2 : Q.length = m) (hm : 1 ≤ m) (hP : ∀ p ∈ P, PlOk p) (hQ : ∀ p ∈ Q, PlOk p) (hk : k ≤ n) : toFar P Q k < 2139095040 :=
  maxTo_lt (by omega) fun i hi => (nearT_ok hl2 hm hQ (hP _ (pl_mem hl (by omega)))).2.2.2
set_option maxRecDepth 100000 in
set_option maxHeartbeats 2000000 in
theorem farOf_w (P Q : List (Nat × Nat)) (A A' : Option Addr) (n c m c' : Nat) (w : World) (hl : P.length = n) (hn : 1 ≤ n) (hn2 : n ≤ 256) (hP : ∀ p ∈ P, PlOk p) (hA : Rd w w.heap.size 1 A n (P.map cxv))
    (hl2 : Q.length = m) (hm : 1 ≤ m) (hm2 : m ≤ 256) (hQ : ∀ p ∈ Q, PlOk p) (hA' : Rd w w.heap.size 1 A' m (Q.map cxv)) :
    Calls Try.prog 32 #[.slice A n c, .slice A' m c'] w fun e w' => e = .returned (.tuple #[.float .f32 (farN P Q), .bool true]) ∧ w' = w := by
  have H1 := Lib.hid (here_w P A n c w hl hn hn2 hP hA)
  have H2 := Lib.hid (here_w Q A' m c' w hl2 hm hm2 hQ hA')
  have N1 := Lib.hid (fun i (hi : i < n) => nearest_w Q (P.getD i (0, 0)) A' m c' w hl2 hm hm2 hQ (hP _ (pl_mem hl hi)) hA')
  have N2 := Lib.hid (fun i (hi : i < m) => nearest_w P (Q.getD i (0, 0)) A n c w hl hn hn2 hP (hQ _ (pl_mem hl2 hi)) hA)
  have T1 := Lib.hid (fun k (hk : k ≤ n) => toFar_lt hl hl2 hm hP hQ hk)
  have T2 := Lib.hid (fun k (hk : k ≤ m) => toFar_lt hl2 hl hn hQ hP hk)
  have K1 := Lib.hid (fun i (hi : i < n) => (nearT_ok hl2 hm hQ (hP _ (pl_mem hl hi))).2.2.2)
  have K2 := Lib.hid (fun i (hi : i < m) => (nearT_ok hl hn hP (hQ _ (pl_mem hl2 hi))).2.2.2)
  have HF : Hid (farN P Q = max (toFar P Q n) (toFar Q P m)) := by unfold farN; rw [hl, hl2]; exact Lib.hid rfl
  obtain ⟨b, off, rfl, hbb, hc⟩ := hA.2 (by omega)
  obtain ⟨b2, off2, rfl, hbb2, hc2⟩ := hA'.2 (by omega)
  have CP := Lib.hid (fun i (hi : i < n) => hc i _ (cxv_at hl hi))
  have CQ := Lib.hid (fun i (hi : i < m) => hc2 i _ (cxv_at hl2 hi))
  clear hc hc2 hl hl2 hP hQ hA hA'
  go_enter Try.func32, Try.ntmps32
  go_wp2_with fail
  refine H1.out.mono ?_
  rintro e w5 ⟨rfl, hw5⟩
  obtain rfl := hw5.symm
  go_wp2_with fail
  refine H2.out.mono ?_
  rintro e w5 ⟨rfl, hw5⟩
  obtain rfl := hw5.symm
  clear H1 H2
  go_wp2
  go_loop [6, 25] (fun so si => ∃ (i x : Nat), i ≤ n ∧ si = .int .i64 (i : Int) ∧ so = .float .f32 x ∧ Hid (x = toFar P Q i)) (fun _ i => n - (intOf i).toNat)
  case atStart => exact ⟨0, 0, Nat.zero_le _, rfl, rfl, Lib.hid rfl⟩
  case round =>
    obtain ⟨i, x, hi, rfl, rfl, HX⟩ := hrel
    by_cases hlt : i < n
    · have ci := CP.out i hlt
      have NC := Lib.hid (N1.out i hlt)
      have hx := T1.out i hi
      rw [← HX.out] at hx
      have hy := K1.out i hlt
      have HN : Hid (toFar P Q (i + 1) = max x (nearT Q (P.getD i (0, 0))).2) := by rw [HX.out]; exact Lib.hid rfl
      generalize P.getD i (0, 0) = p0 at *
      obtain ⟨p01, p02⟩ := p0
      simp only at ci NC
      generalize nearT Q (p01, p02) = t at *
      obtain ⟨t1, t2⟩ := t
      simp only at NC HN hy
      have MX := plus_max hx hy
      have hiI : (i : Int) < (n : Int) := by omega
      go_wp2_with (go_at_call 77; refine NC.out.mono ?_; rintro e w5 ⟨rfl, hw5⟩; obtain rfl := hw5.symm)
      go_round
      case rel => exact ⟨i + 1, max x t2, by omega, by go_num, rfl, Lib.hid HN.out.symm⟩
      case measure => simp [intOf]; omega
    · obtain rfl : i = n := by omega
      have hx := T1.out i (Nat.le_refl _)
      rw [← HX.out] at hx
      go_wp2
      go_loop [6, 41] (fun so si => ∃ (j y : Nat), j ≤ m ∧ si = .int .i64 (j : Int) ∧ so = .float .f32 y ∧ Hid (y = max x (toFar Q P j))) (fun _ j => m - (intOf j).toNat)
      case atStart => exact ⟨0, x, Nat.zero_le _, rfl, rfl, Lib.hid (Nat.max_eq_left (Nat.zero_le _)).symm⟩
      case round =>
        obtain ⟨j, y, hj, rfl, rfl, HY⟩ := hrel
        by_cases hlt : j < m
        · have ci := CQ.out j hlt
          have NC := Lib.hid (N2.out j hlt)
          have hyl : y < 2139095040 := by have := T2.out j hj; rw [HY.out]; omega
          have hy := K2.out j hlt
          have HN : Hid (max x (toFar Q P (j + 1)) = max y (nearT P (Q.getD j (0, 0))).2) := by
            rw [HY.out]
            show Hid (max x (max (toFar Q P j) _) = _)
            rw [Nat.max_assoc]
            exact Lib.hid rfl
          generalize Q.getD j (0, 0) = p0 at *
          obtain ⟨p01, p02⟩ := p0
          simp only at ci NC
          generalize nearT P (p01, p02) = t at *
          obtain ⟨t1, t2⟩ := t
          simp only at NC HN hy
          have MX := plus_max hyl hy
          have hjI : (j : Int) < (m : Int) := by omega
          go_wp2_with (go_at_call 77; refine NC.out.mono ?_; rintro e w5 ⟨rfl, hw5⟩; obtain rfl := hw5.symm)
          go_round
          case rel => exact ⟨j + 1, max y t2, by omega, by go_num, rfl, Lib.hid HN.out.symm⟩
          case measure => simp [intOf]; omega
        · obtain rfl : j = m := by omega
          go_wp2
          go_ret2
          rw [HF.out, ← HX.out, ← HY.out]
          exact ⟨rfl, rfl⟩
end Go.Proofs.Ytbpgbplepebcjaa
