/- Walks: whether numbers are finite, and whether a sheet is valid, by the program and by the reference. Conditions: as each says. -/
import Derived.Test.YtbkacmklgkgamaaFw
import Derived.Test.YtbkacmklgkgamaaBlk
import Derived.Deep.QuietTactic
import Derived.BigQuiet
import Derived.Handy
namespace Go.Proofs.Ytbkacmklgkgamaa
open Go.RowKit

def fv (x : Nat) : Value := .float .f32 x
theorem ret_bool {a b : Bool} (h : a = b) : Ending.returned (.bool a) = .returned (.bool b) := by rw [h]
theorem below_drewN' {B : Nat} {a w : World} (h : Below B a w) (n : Nat) : Below B a (w.drewN n) := ⟨h.os, h.tape, h.output, h.size, h.block⟩
theorem fin_self {x r : Nat} (h : FR .sub x x r) : (FloatKind.f32.format.order r 0 == some Ordering.eq) = finW x := by
  show (Ieee.single.order r 0 == some Ordering.eq) = finW x
  have h0 : Ieee.single.read 0 = .number false 0 Ieee.single.leastPlace := by decide
  cases hx : finW x with
  | true =>
    have hb := h.fin (.inr (.inl rfl)) hx hx
    obtain ⟨s, m, i, e⟩ := finW_iff.1 hx
    simp only [fbits, Ieee.Format.sub, e, Ieee.Datum.sum, Ieee.Datum.opposite] at hb
    have ht : Ieee.signed s m (i - min i i).toNat + Ieee.signed (!s) m (i - min i i).toNat = 0 := by
      unfold Ieee.signed
      cases s <;> simp <;> omega
    rw [ht] at hb
    simp [Ieee.Format.write, Ieee.Format.nearest, Ieee.Format.word] at hb
    subst hb
    decide
  | false =>
    have hb := h.bad (.inr (.inl rfl)) (.inl hx)
    unfold Ieee.Format.order
    rw [h0]
    rcases not_fin hb with ⟨s, e⟩ | ⟨s, t, e⟩
    · rw [e]
      cases s <;> decide
    · rw [e]
      rfl
set_option maxHeartbeats 400000 in
theorem l01Finite_any (x : Nat) (w : World) : Calls Try.prog 76 #[.float .f32 x] w fun e w' => e = .returned (.bool (finW x)) ∧ ∃ m, w' = w.drewN m := by
  go_enter Try.func76, Try.ntmps76
  go_wp2_with (first
    | (refine wpList_float rfl .sub (by simp) _ _ _ _ rfl x x rfl rfl ?_; intro r m hr hlt
       have hs := fin_self hr
       generalize hw : World.drewN _ m = w1)
    | fail)
  go_ret
  exact ⟨rfl, m, hw.symm⟩
set_option maxHeartbeats 400000 in
theorem IsFinite_any (x : Nat) (w : World) : Calls Try.prog 67 #[.float .f32 x] w fun e w' => e = .returned (.bool (finW x)) ∧ ∃ m, w' = w.drewN m := by
  go_enter Try.func67, Try.ntmps67
  go_wp2_with (first
    | (refine wpList_float rfl .sub (by simp) _ _ _ _ rfl x x rfl rfl ?_; intro r m hr hlt
       have hs := fin_self hr
       generalize hw : World.drewN _ m = w1)
    | fail)
  go_ret
  exact ⟨rfl, m, hw.symm⟩
set_option maxHeartbeats 400000 in
theorem areFinite1_any (x : Nat) (w : World) : Calls Try.prog 66 #[.float .f32 x] w fun e w' => e = .returned (.bool (!finW x)) ∧ ∃ m, w' = w.drewN m := by
  have IC := Lib.hid (IsFinite_any x w)
  go_enter Try.func66, Try.ntmps66
  go_wp2_with fail
  refine IC.out.mono ?_
  rintro e w1 ⟨rfl, m, hw⟩
  go_wp2
  go_ret
  first | exact ⟨rfl, m, hw⟩ | exact ⟨rfl, m, rfl⟩
theorem all_get {xs : List Nat} {k : Nat} {x : Nat} (h : xs[k]? = some x) (hx : finW x = false) : xs.all finW = false := by
  rw [List.all_eq_false]
  exact ⟨x, List.mem_of_getElem? h, by rw [hx]; decide⟩
theorem all_take {xs : List Nat} {k : Nat} {x : Nat} (h : xs[k]? = some x) (hx : finW x = true) (ht : (xs.take k).all finW = true) : (xs.take (k + 1)).all finW = true := by
  rw [List.take_add_one, h, List.all_append, ht]
  simp [hx]
set_option maxRecDepth 100000 in
set_option maxHeartbeats 1000000 in
theorem l02Finite_any (A : Option Addr) (n c B : Nat) (xs : List Nat) (w : World) (hn : n ≤ maxLen) (hA : Rd w B 1 A n (xs.map fv)) :
    Calls Try.prog 61 #[.slice A n c] w fun e w' => e = .returned (.bool (xs.all finW)) ∧ ∃ m, w' = w.drewN m := by
  have hl : xs.length = n := by have := hA.len; simpa using this
  have HL := Lib.hid hl
  have HA := Lib.hid hA
  have FC := Lib.hid (fun x w => l01Finite_any x w)
  unfold maxLen at hn
  clear hA hl
  go_enter Try.func61, Try.ntmps61
  go_wp2
  go_loopw [3] (fun si wr => ∃ k m : Nat, k ≤ n ∧ si = .int .i64 k ∧ wr = w.drewN m ∧ Hid ((xs.take k).all finW = true)) (fun si _ => n - (intOf si).toNat)
  case atStart => exact ⟨0, 0, Nat.zero_le _, rfl, rfl, rfl⟩
  case round =>
    obtain ⟨k, m, hk, rfl, hwr, HOK⟩ := hrel
    have HWR := Lib.hid hwr
    by_cases hlt : k < n
    · obtain ⟨b, off, rfl, hbb, hc⟩ := HA.out.2 (by omega)
      obtain ⟨x, hx⟩ : ∃ x, xs[k]? = some x := ⟨_, List.getElem?_eq_getElem (by rw [HL.out]; exact hlt)⟩
      have e0 : wr.cell? ⟨b, off + k, none⟩ = some (.float .f32 x) := by rw [hwr]; exact hc _ _ (by rw [List.getElem?_map, hx]; rfl)
      have HX := Lib.hid hx
      have FX := Lib.hid (FC.out x wr)
      have hki : (k : Int) < (n : Int) := by omega
      obtain ⟨q, hq⟩ : ∃ q, finW x = q := ⟨_, rfl⟩
      have HQ := Lib.hid hq
      rw [hq] at FX
      clear hwr hc hx hq
      cases q
      · have HS := Lib.hid (all_get HX.out HQ.out)
        go_wp2_with fail
        refine FX.out.mono ?_
        rintro e w1 ⟨rfl, m1, hw1⟩
        have HW1 := Lib.hid hw1
        clear hw1
        go_wp2
        go_ret
        exact ⟨ret_bool HS.out.symm, m + m1, by rw [HW1.out, HWR.out]; exact World.drewN_drewN _ _ _⟩
      · have HS := Lib.hid (all_take HX.out HQ.out HOK.out)
        go_wp2_with fail
        refine FX.out.mono ?_
        rintro e w1 ⟨rfl, m1, hw1⟩
        have HW1 := Lib.hid hw1
        clear hw1
        go_wp2
        go_roundw
        case rel => exact ⟨k + 1, m + m1, by omega, by go_num, by rw [HW1.out, HWR.out]; exact World.drewN_drewN _ _ _, HS⟩
        case measure => simp [intOf]; omega
    · obtain rfl : k = n := by omega
      have HS : Hid (xs.all finW = true) := by
        have := HOK.out
        rwa [List.take_of_length_le (by rw [HL.out]; exact Nat.le_refl _)] at this
      clear hwr
      go_wp2
      go_ret
      exact ⟨ret_bool HS.out.symm, m, HWR.out⟩
set_option maxRecDepth 100000 in
set_option maxHeartbeats 1000000 in
theorem IndexFuncFin_any (A : Option Addr) (n c B : Nat) (xs : List Nat) (w : World) (hn : n ≤ maxLen) (hA : Rd w B 1 A n (xs.map fv)) :
    Calls Try.prog 78 #[.slice A n c, .func (.func 66) #[] #[]] w fun e w' => ∃ j : Int, e = .returned (.int .i64 j) ∧ decide (0 ≤ j) = (!xs.all finW) ∧ ∃ m, w' = w.drewN m := by
  have hl : xs.length = n := by have := hA.len; simpa using this
  have HL := Lib.hid hl
  have HA := Lib.hid hA
  have FC := Lib.hid (fun x w => areFinite1_any x w)
  unfold maxLen at hn
  clear hA hl
  go_enter Try.func78, Try.ntmps78
  go_wp2
  go_loopw [8] (fun si wr => ∃ k m : Nat, k ≤ n ∧ si = .int .i64 k ∧ wr = w.drewN m ∧ Hid ((xs.take k).all finW = true)) (fun si _ => n - (intOf si).toNat)
  case atStart => exact ⟨0, 0, Nat.zero_le _, rfl, rfl, rfl⟩
  case round =>
    obtain ⟨k, m, hk, rfl, hwr, HOK⟩ := hrel
    have HWR := Lib.hid hwr
    by_cases hlt : k < n
    · obtain ⟨b, off, rfl, hbb, hc⟩ := HA.out.2 (by omega)
      obtain ⟨x, hx⟩ : ∃ x, xs[k]? = some x := ⟨_, List.getElem?_eq_getElem (by rw [HL.out]; exact hlt)⟩
      have e0 : wr.cell? ⟨b, off + k, none⟩ = some (.float .f32 x) := by rw [hwr]; exact hc _ _ (by rw [List.getElem?_map, hx]; rfl)
      have HX := Lib.hid hx
      have FX := Lib.hid (FC.out x wr)
      have hki : (k : Int) < (n : Int) := by omega
      obtain ⟨q, hq⟩ : ∃ q, finW x = q := ⟨_, rfl⟩
      have HQ := Lib.hid hq
      rw [hq] at FX
      clear hwr hc hx hq
      cases q
      · have HS := Lib.hid (all_get HX.out HQ.out)
        go_wp2_with fail
        refine FX.out.mono ?_
        rintro e w1 ⟨rfl, m1, hw1⟩
        have HW1 := Lib.hid hw1
        clear hw1
        go_wp2
        go_ret
        exact ⟨(k : Int), rfl, by rw [HS.out]; simp, m + m1, by rw [HW1.out, HWR.out]; exact World.drewN_drewN _ _ _⟩
      · have HS := Lib.hid (all_take HX.out HQ.out HOK.out)
        go_wp2_with fail
        refine FX.out.mono ?_
        rintro e w1 ⟨rfl, m1, hw1⟩
        have HW1 := Lib.hid hw1
        clear hw1
        go_wp2
        go_roundw
        case rel => exact ⟨k + 1, m + m1, by omega, by go_num, by rw [HW1.out, HWR.out]; exact World.drewN_drewN _ _ _, HS⟩
        case measure => simp [intOf]; omega
    · obtain rfl : k = n := by omega
      have HS : Hid (xs.all finW = true) := by
        have := HOK.out
        rwa [List.take_of_length_le (by rw [HL.out]; exact Nat.le_refl _)] at this
      clear hwr
      go_wp2
      go_ret
      exact ⟨-1, rfl, by rw [HS.out]; decide, m, HWR.out⟩
set_option maxHeartbeats 1000000 in
theorem ContainsFuncFin_any (A : Option Addr) (n c B : Nat) (xs : List Nat) (w : World) (hn : n ≤ maxLen) (hA : Rd w B 1 A n (xs.map fv)) :
    Calls Try.prog 65 #[.slice A n c, .func (.func 66) #[] #[]] w fun e w' => e = .returned (.bool (!xs.all finW)) ∧ ∃ m, w' = w.drewN m := by
  have IC := Lib.hid (IndexFuncFin_any A n c B xs w hn hA)
  clear hA
  go_enter Try.func65, Try.ntmps65
  go_wp2_with fail
  refine IC.out.mono ?_
  rintro e w1 ⟨j, rfl, hj, m, hw⟩
  have HW := Lib.hid hw
  have HJ := Lib.hid hj
  clear hw hj IC
  go_wp2
  go_ret
  exact ⟨ret_bool HJ.out, m, HW.out⟩
set_option maxHeartbeats 1000000 in
theorem areFinite_any (A : Option Addr) (n c B : Nat) (xs : List Nat) (w : World) (hn : n ≤ maxLen) (hA : Rd w B 1 A n (xs.map fv)) :
    Calls Try.prog 53 #[.slice A n c] w fun e w' => e = .returned (.bool (xs.all finW)) ∧ ∃ m, w' = w.drewN m := by
  have IC := Lib.hid (ContainsFuncFin_any A n c B xs w hn hA)
  clear hA
  go_enter Try.func53, Try.ntmps53
  go_wp2_with fail
  refine IC.out.mono ?_
  rintro e w1 ⟨rfl, m, hw⟩
  have HW := Lib.hid hw
  clear hw IC
  go_wp2
  go_ret
  exact ⟨ret_bool (by simp), m, HW.out⟩
end Go.Proofs.Ytbkacmklgkgamaa
