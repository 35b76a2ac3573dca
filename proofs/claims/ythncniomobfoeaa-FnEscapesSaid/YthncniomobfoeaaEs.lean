/- Walks: seeds, opposite numbers, lists of numbers that are finite. Conditions: seeds of 31 bits; numbers of middling size. -/
import Derived.Test.YthncniomobfoeaaEr
import Derived.Test.YthncniomobfoeaaEi
namespace Go.Proofs.Ythncniomobfoeaa
open Go.RowKit
open Num Quick Circ
attribute [local go_sem] run_store_fl run_store_cx

def nsd (s : Nat) : Nat := (1103515245 * s + 12345) % 2147483648
theorem nsd_le (s : Nat) : nsd s ≤ 2147483647 := by unfold nsd; omega
theorem nsd_cast (s : Nat) : ((1103515245 * (s : Int) + 12345) % 2147483648) = ((nsd s : Nat) : Int) := by unfold nsd; omega
theorem ret_int {k : IntKind} {a b : Int} (h : a = b) : Ending.returned (.int k a) = .returned (.int k b) := by rw [h]
def par (s : Nat) : Bool := s / 65536 % 2 == 1
theorem par_cast (s : Nat) : ((s : Int) / 65536 % 2 == 1) = par s := by unfold par; rw [Bool.eq_iff_iff]; simp; omega
set_option maxHeartbeats 400000 in
theorem nextSeed_any (s : Nat) (w : World) (hs : s ≤ 2147483647) : Calls Try.prog 47 #[.int .i64 (s : Int)] w fun e w' => e = .returned (.int .i64 (nsd s : Nat)) ∧ w' = w := by
  have e1 := nsd_cast s
  obtain ⟨x, ex⟩ : ∃ x, nsd s = x := ⟨_, rfl⟩
  rw [ex] at e1 ⊢
  clear ex
  go_enter Try.func47, Try.ntmps47
  go_wp2
  go_ret
  exact ⟨ret_int e1, rfl⟩
theorem isSeed_w (s : Nat) (w : World) (h : s ≤ 2147483647) : Calls Try.prog 46 #[.int .i64 (s : Int)] w fun e w' => e = .returned (.bool true) ∧ w' = w := by
  have C1 := Lib.hid (within_w (s : Int) 0 2147483647 w (by omega) (by omega))
  go_enter Try.func46, Try.ntmps46
  go_wp2_with fail
  refine C1.out.mono ?_
  rintro e w1 ⟨rfl, rfl⟩
  go_wp2
  go_ret
  exact ⟨rfl, rfl⟩
theorem opposite_w (a b : Nat) (w : World) : Calls Try.prog 48 #[.complex .f32 a b] w fun e w' => e = .returned (.complex .f32 (ng32 a) (ng32 b)) ∧ w' = w := by
  have n1 := neg32 a
  have n2 := neg32 b
  go_enter Try.func48, Try.ntmps48
  go_wp2
  go_ret
  exact ⟨rfl, rfl⟩
theorem row_at {f : Nat → Nat × Nat} {n k : Nat} (hk : k < n) : ((List.range n).map (fun i => cxv (f i)))[k]? = some (.complex .f32 (f k).1 (f k).2) := by
  rw [List.getElem?_map, List.getElem?_range hk]; rfl
theorem finite1 {B : Rat} {z : Nat × Nat} (hz : Cb B z) (w : World) : Calls Try.prog 72 #[.complex .f32 z.1 z.2] w fun e w' => e = .returned (.bool false) ∧ w' = w := by
  have SM := Lib.hid (fun w => finC_cb hz w)
  clear hz
  go_enter Try.func72, Try.ntmps72
  go_wp2_with fail
  refine (SM.out _).mono ?_
  rintro e w1 ⟨rfl, rfl⟩
  go_wp2
  go_ret
  exact ⟨rfl, rfl⟩
set_option maxRecDepth 100000 in
theorem indexFinite {B : Rat} (f : Nat → Nat × Nat) (A : Option Addr) (n c : Nat) (w : World) (hn2 : n ≤ 256) (hP : ∀ k, k < n → Cb B (f k)) (hA : Rd w w.heap.size 1 A n ((List.range n).map (fun i => cxv (f i)))) :
    Calls Try.prog 81 #[.slice A n c, .func (.func 72) #[] #[]] w fun e w' => e = .returned (.int .i64 (-1)) ∧ w' = w := by
  have HA := Lib.hid hA
  have HPP := Lib.hid hP
  clear hA hP
  go_enter Try.func81, Try.ntmps81
  go_wp2
  go_loop [8] (fun si => ∃ k : Nat, k ≤ n ∧ si = .int .i64 k) (fun i => n - (intOf i).toNat)
  case atStart => exact ⟨0, Nat.zero_le _, rfl⟩
  case round =>
    obtain ⟨k, hk, rfl⟩ := hrel
    by_cases hlt : k < n
    · obtain ⟨b, off, rfl, hbb, hc⟩ := HA.out.2 (by omega)
      have cY := hc k _ (row_at hlt)
      have PY := Lib.hid (finite1 (HPP.out _ hlt))
      clear hc
      generalize f k = y at *
      obtain ⟨y1, y2⟩ := y
      simp only at cY PY
      have hkI : (k : Int) < (n : Int) := Int.ofNat_lt.mpr hlt
      go_wp2_with (go_at_call 72; refine (PY.out _).mono ?_; rintro e w5 ⟨rfl, hw5⟩; obtain rfl := hw5.symm)
      go_round
      case rel => exact ⟨k + 1, by omega, by go_num⟩
      case measure => simp [intOf]; omega
    · obtain rfl : k = n := by omega
      go_wp2
      go_ret
      simp
theorem areFinite_w {B : Rat} (f : Nat → Nat × Nat) (A : Option Addr) (n c : Nat) (w : World) (hn2 : n ≤ 256) (hP : ∀ k, k < n → Cb B (f k)) (hA : Rd w w.heap.size 1 A n ((List.range n).map (fun i => cxv (f i)))) :
    Calls Try.prog 49 #[.slice A n c] w fun e w' => e = .returned (.bool true) ∧ w' = w := by
  have IC := Lib.hid (indexFinite f A n c w hn2 hP hA)
  have CC : Hid (Calls Try.prog 71 #[.slice A n c, .func (.func 72) #[] #[]] w fun e w' => e = .returned (.bool false) ∧ w' = w) := by
    refine Lib.hid ?_
    clear hP hA
    go_enter Try.func71, Try.ntmps71
    go_wp2_with fail
    refine IC.out.mono ?_
    rintro e w1 ⟨rfl, rfl⟩
    go_wp2
    go_ret
    simp
  clear hP hA IC
  go_enter Try.func49, Try.ntmps49
  go_wp2_with fail
  refine CC.out.mono ?_
  rintro e w1 ⟨rfl, rfl⟩
  go_wp2
  go_ret
  exact ⟨rfl, rfl⟩
/-- A step backwards, with the sign turned or not. -/
structure Inv (p q : Nat) (o : Bool) (z r : Nat × Nat) : Prop where
  step : ∃ d1 d2 u v, (∀ w : World, Calls Try.prog 41 #[.complex .f32 z.1 z.2, .complex .f32 p q] w fun e w' => e = .returned (.complex .f32 d1 d2) ∧ w' = w) ∧ (∀ w : World, Calls Try.prog 40 #[.complex .f32 d1 d2] w fun e w' => e = .returned (.complex .f32 u v) ∧ w' = w) ∧ r = (if o then (ng32 u, ng32 v) else (u, v))
  led : Led p q z.1 z.2 r.1 r.2
theorem inv_ex {p q : Nat} (hc : Cb ((2 : Nat) : Rat) (p, q)) (o : Bool) {z : Nat × Nat} (hz1 : Fl .f32 z.1) (hz2 : Fl .f32 z.2) (hq : Num.fv .f32 z.1 * Num.fv .f32 z.1 + Num.fv .f32 z.2 * Num.fv .f32 z.2 ≤ 81 / 10) : ∃ r, Inv p q o z r := by
  obtain ⟨d1, d2, u, v, h1, h2, l1, l2⟩ := inv_step hc hz1 hz2 hq
  cases o with
  | false => exact ⟨(u, v), ⟨d1, d2, u, v, h1, h2, rfl⟩, l1⟩
  | true => exact ⟨(ng32 u, ng32 v), ⟨d1, d2, u, v, h1, h2, rfl⟩, l2⟩

open Classical in
noncomputable def invN (p q : Nat) (o : Bool) (z : Nat × Nat) : Nat × Nat := if h : ∃ r, Inv p q o z r then Classical.choose h else (0, 0)
theorem invN_of {p q : Nat} {o : Bool} {z : Nat × Nat} (h : ∃ r, Inv p q o z r) : Inv p q o z (invN p q o z) := by
  unfold invN
  rw [dif_pos h]
  exact Classical.choose_spec h
def sds (s : Nat) : Nat → Nat
  | 0 => s
  | k + 1 => nsd (sds s k)
noncomputable def invs (p q s : Nat) (z : Nat × Nat) : Nat → Nat × Nat
  | 0 => z
  | k + 1 => invN p q (par (sds s (k + 1))) (invs p q s z k)
theorem sds_le {s : Nat} (h : s ≤ 2147483647) (k : Nat) : sds s k ≤ 2147483647 := by
  cases k with
  | zero => exact h
  | succ k => exact nsd_le _
theorem invs_ok {p q s : Nat} {z : Nat × Nat} (hc : Cb ((2 : Nat) : Rat) (p, q)) (hz1 : Fl .f32 z.1) (hz2 : Fl .f32 z.2) (hq : Num.fv .f32 z.1 * Num.fv .f32 z.1 + Num.fv .f32 z.2 * Num.fv .f32 z.2 ≤ 81 / 10) :
    ∀ k, Inv p q (par (sds s (k + 1))) (invs p q s z k) (invs p q s z (k + 1)) := by
  intro k
  have key : Fl .f32 (invs p q s z k).1 ∧ Fl .f32 (invs p q s z k).2 ∧ Num.fv .f32 (invs p q s z k).1 * Num.fv .f32 (invs p q s z k).1 + Num.fv .f32 (invs p q s z k).2 * Num.fv .f32 (invs p q s z k).2 ≤ 81 / 10 := by
    induction k with
    | zero => exact ⟨hz1, hz2, hq⟩
    | succ k ih =>
      have := (invN_of (inv_ex hc (par (sds s (k + 1))) ih.1 ih.2.1 ih.2.2)).led
      exact ⟨this.cb.1, this.cb.2.1, this.pow⟩
  exact invN_of (inv_ex hc _ key.1 key.2.1 key.2.2)
theorem seed5 : sds 77 5 ≠ 77 := by decide
end Go.Proofs.Ythncniomobfoeaa
