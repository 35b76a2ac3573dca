/- Walk: a list of small maps is the same as itself. Conditions: finite parts. -/
import Derived.Test.YtbpgbplepebcjaaMq
namespace Go.Proofs.Ytbpgbplepebcjaa
open Go.RowKit
open Num Quick
attribute [local go_sem] run_store_fl run_store_cx

theorem signbit_w (x : Nat) : ∃ b : Bool, ∀ w : World, Calls Try.prog 92 #[.float .f64 x] w fun e w' => e = .returned (.bool b) ∧ w' = w := by
  refine ⟨decide (wrap64 (x : Int) < 0), fun w => ?_⟩
  have h1 := rBits64 x
  go_enter Try.func92, Try.ntmps92
  go_wp2
  go_ret
  exact ⟨rfl, rfl⟩
theorem sameNumber_self {x : Nat} (hx : Fl .f32 x) (w : World) : Calls Try.prog 60 #[.float .f32 x, .float .f32 x] w fun e w' => e = .returned (.bool true) ∧ w' = w := by
  obtain ⟨y, y1, y2, y3, y4⟩ := fwide hx
  obtain ⟨b, hb⟩ := signbit_w y
  have e1 : (FloatKind.f32.format.order x x != some .eq) = false := by rw [cmp_eq' hx hx rfl]; decide
  have e2 : (FloatKind.f32.format.order x x == some .eq) = true := by rw [cmp_eq' hx hx rfl]; decide
  have k1 := rWide y1
  have HB := Lib.hid hb
  clear y1 y2 y3 y4 hb hx
  go_enter Try.func60, Try.ntmps60
  go_wp2_with fail
  refine (HB.out _).mono ?_
  rintro e w1 ⟨rfl, hw⟩
  obtain rfl := hw.symm
  go_wp2_with fail
  refine (HB.out _).mono ?_
  rintro e w1 ⟨rfl, hw⟩
  obtain rfl := hw.symm
  go_wp2
  go_ret
  exact ⟨ret_b (by cases b <;> rfl), rfl⟩
theorem sameComplex_self {x y : Nat} (hx : Fl .f32 x) (hy : Fl .f32 y) (w : World) : Calls Try.prog 59 #[.complex .f32 x y, .complex .f32 x y] w fun e w' => e = .returned (.bool true) ∧ w' = w := by
  have C1 := Lib.hid (fun w => sameNumber_self hx w)
  have C2 := Lib.hid (fun w => sameNumber_self hy w)
  clear hx hy
  go_enter Try.func59, Try.ntmps59
  go_wp2_with fail
  refine (C1.out _).mono ?_
  rintro e w1 ⟨rfl, hw⟩
  obtain rfl := hw.symm
  go_wp2_with fail
  refine (C2.out _).mono ?_
  rintro e w1 ⟨rfl, hw⟩
  obtain rfl := hw.symm
  go_wp2
  go_ret
  exact ⟨rfl, rfl⟩
set_option maxRecDepth 100000 in
set_option maxHeartbeats 1000000 in
theorem same1_self {a b c d s : Nat} (fl : Bool) (ha : Fl .f32 a) (hb : Fl .f32 b) (hc : Fl .f32 c) (hd : Fl .f32 d) (hs : Fl .f32 s) (w : World) :
    Calls Try.prog 58 #[smallV a b c d fl s, smallV a b c d fl s] w fun e w' => e = .returned (.bool true) ∧ Below w.heap.size w w' := by
  have hb0 : ∀ o o', Below w.heap.size w ((w.alloc o).alloc o') := fun o o' => ((Below.refl _ _).alloc (Nat.le_refl _) _).alloc (by simp) _
  have H0 := Lib.hid hb0
  have C1 := Lib.hid (fun w => sameComplex_self ha hb w)
  have C2 := Lib.hid (fun w => sameComplex_self hc hd w)
  have C3 := Lib.hid (fun w => sameNumber_self hs w)
  have hfl : (fl == fl) = true := by simp
  clear hb0 ha hb hc hd hs
  unfold smallV
  go_enter Try.func58, Try.ntmps58
  go_wp2_with fail
  refine (C1.out _).mono ?_
  rintro e w1 ⟨rfl, hw⟩
  obtain rfl := hw.symm
  go_wp2_with fail
  refine (C2.out _).mono ?_
  rintro e w1 ⟨rfl, hw⟩
  obtain rfl := hw.symm
  go_wp2_with fail
  refine (C3.out _).mono ?_
  rintro e w1 ⟨rfl, hw⟩
  obtain rfl := hw.symm
  go_wp2
  go_ret
  exact ⟨rfl, H0.out _ _⟩
set_option maxRecDepth 100000 in
set_option maxHeartbeats 1000000 in
theorem sameSmalls_self (L : List Sm) (N : Nat) (A : Option Addr) (c : Nat) (w : World) (hL : L.length = N) (hN1 : 1 ≤ N) (hN4 : N ≤ 4) (hok : ∀ x ∈ L, x.ok N) (hR : Rd w w.heap.size 4 A N (smCells L)) :
    Calls Try.prog 16 #[.slice A N c, .slice A N c] w fun e w' => e = .returned (.bool true) ∧ Below w.heap.size w w' := by
  have EC : Calls Try.prog 57 #[.slice A N c, .slice A N c, .func (.func 58) #[] #[]] w fun e w' => e = .returned (.bool true) ∧ Below w.heap.size w w' := by
    obtain ⟨b, off, rfl, hbb, hcell⟩ := hR.2 (by omega)
    have HC := Lib.hid hcell
    have HOK := Lib.hid hok
    have HL := Lib.hid hL
    clear hcell hok hL hR
    go_enter Try.func57, Try.ntmps57
    go_wp2
    go_loopw [17] (fun i wr => ∃ k : Nat, k ≤ N ∧ i = .int .i64 k ∧ Below w.heap.size w wr) (fun i _ => N - (intOf i).toNat)
    case atStart => exact ⟨0, Nat.zero_le _, rfl, Below.refl _ _⟩
    case round =>
      obtain ⟨k, hk, rfl, hb⟩ := hrel
      by_cases hlt : k < N
      · obtain ⟨x, hx⟩ : ∃ x, L[k]? = some x := ⟨_, List.getElem?_eq_getElem (by have := HL.out; omega)⟩
        obtain ⟨g0, g1, g2, g3⟩ := smCells_get L k x hx
        have hxo : x.ok N := HOK.out x (List.mem_of_getElem? hx)
        obtain ⟨xa, xb, xc, xd, xf, xs⟩ := x
        simp only at g0 g1 g2 g3
        have d0 := (hb.cell (p := ⟨b, off + k * 4, none⟩) hbb).trans (HC.out _ _ g0)
        have d1 := (hb.cell (p := ⟨b, off + k * 4 + 1, none⟩) hbb).trans (HC.out _ _ g1)
        have d2 := (hb.cell (p := ⟨b, off + k * 4 + 2, none⟩) hbb).trans (HC.out _ _ g2)
        have d3 := (hb.cell (p := ⟨b, off + k * 4 + 3, none⟩) hbb).trans (HC.out _ _ g3)
        have S1 := Lib.hid (fun w => same1_self xf hxo.a.fin hxo.b.fin hxo.c.fin hxo.d.fin hxo.s.fin w)
        unfold smallV at S1
        have Hb := Lib.hid hb
        have hki : (k : Int) < (N : Int) := by omega
        have hzr := hb.size
        have hbr : b ≠ wr.heap.size := by omega
        obtain ⟨w2, ew2⟩ : ∃ w2, w2 = wr.alloc (.cells (smallC xa xb xc xd xf xs) 29) := ⟨_, rfl⟩
        have E2 := Lib.hid ew2
        have B2 : Hid (Below w.heap.size w w2) := by rw [ew2]; exact hb.alloc hzr _
        have e0 := (B2.out.cell (p := ⟨b, off + k * 4, none⟩) hbb).trans (HC.out _ _ g0)
        have e1 := (B2.out.cell (p := ⟨b, off + k * 4 + 1, none⟩) hbb).trans (HC.out _ _ g1)
        have e2 := (B2.out.cell (p := ⟨b, off + k * 4 + 2, none⟩) hbb).trans (HC.out _ _ g2)
        have e3 := (B2.out.cell (p := ⟨b, off + k * 4 + 3, none⟩) hbb).trans (HC.out _ _ g3)
        clear hx g0 g1 g2 g3 hxo hb
        unfold smallC at E2
        rw [ew2] at e0 e1 e2 e3
        unfold smallC at e0 e1 e2 e3
        clear ew2
        go_wp2_with fail
        refine (S1.out _).mono ?_
        rintro e w4 ⟨rfl, hb4⟩
        have B4 : Hid (Below w.heap.size w w4) := ((Hb.out.alloc hzr _).alloc (by simp; omega) _).trans (hb4.mono (by simp; omega))
        clear hb4 d0 d1 d2 d3 e0 e1 e2 e3 B2 E2 Hb
        go_wp2
        go_roundw
        case rel => exact ⟨k + 1, by omega, by go_num, B4.out⟩
        case measure => simp [intOf]; omega
      · have Hb := Lib.hid hb
        clear hb
        go_wp2
        go_ret
        exact ⟨rfl, Hb.out⟩
  have EC := Lib.hid EC
  clear hL hN1 hN4 hok hR
  go_enter Try.func16, Try.ntmps16
  go_wp2_with fail
  refine EC.out.mono ?_
  rintro e w1 ⟨rfl, hb⟩
  have HB := Lib.hid hb
  clear hb
  go_wp2
  go_ret
  exact ⟨rfl, HB.out⟩
end Go.Proofs.Ytbpgbplepebcjaa
