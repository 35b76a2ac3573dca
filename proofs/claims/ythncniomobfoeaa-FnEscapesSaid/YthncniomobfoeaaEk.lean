/- Walks: lengths and roots of complex numbers, and the numbers that a square does not move. Conditions: the plain functions give numbers. -/
import Derived.Test.YthncniomobfoeaaEj
import Derived.Test.YthncniomobfoeaaEb
import Derived.Test.YthncniomobfoeaaCf
namespace Go.Proofs.Ythncniomobfoeaa
open Go.RowKit
open Num Quick Circ
attribute [local go_sem] run_store_fl run_store_cx

section
variable (w : World)
theorem LongOf_calls {a b r : Nat} (h : longC a b = some r) : Calls Try.prog 16 #[.complex .f32 a b] w fun e w' => e = .returned (.float .f32 r) ∧ w' = w := by
  unfold longC at h
  obtain ⟨x, h1, h⟩ := af_some h
  obtain ⟨y, h2, h⟩ := af_some h
  obtain ⟨p, h3, h⟩ := opf_some h
  obtain ⟨q, h4, h⟩ := opf_some h
  obtain ⟨u, h5, h⟩ := opf_some h
  obtain ⟨s, h6, h⟩ := af_some h
  obtain ⟨t, h7, h⟩ := af_some h
  obtain rfl : t = r := by simpa using h
  have C1 := Lib.hid (fun w => power_w (w := w) h1 h2 h3 h4 h5)
  have S1 := Lib.hid (fun w => sqrt_w (w := w) ((qsqrt_eq u).symm.trans h6))
  have k1 := rNarrow h7
  clear h1 h2 h3 h4 h5 h6 h7 h
  go_enter Try.func16, Try.ntmps16
  go_wp2_with fail
  refine (C1.out _).mono ?_
  rintro e w1 ⟨rfl, hw1⟩
  obtain rfl := hw1.symm
  go_wp2_with fail
  refine (S1.out _).mono ?_
  rintro e w1 ⟨rfl, hw1⟩
  obtain rfl := hw1.symm
  go_wp2
  go_ret
  exact ⟨rfl, rfl⟩
theorem RootNumber_calls {x r : Nat} (h : rootNum x = some r) : Calls Try.prog 80 #[.float .f32 x] w fun e w' => e = .returned (.float .f32 r) ∧ w' = w := by
  unfold rootNum at h
  obtain ⟨y, h1, h⟩ := af_some h
  obtain ⟨s, h6, h⟩ := af_some h
  obtain ⟨t, h7, h⟩ := af_some h
  obtain rfl : t = r := by simpa using h
  have q1 := rWide h1
  have S1 := Lib.hid (fun w => sqrt_w (w := w) ((qsqrt_eq y).symm.trans h6))
  have k1 := rNarrow h7
  clear h1 h6 h7 h
  go_enter Try.func80, Try.ntmps80
  go_wp2_with fail
  refine (S1.out _).mono ?_
  rintro e w1 ⟨rfl, hw1⟩
  obtain rfl := hw1.symm
  go_wp2
  go_ret
  exact ⟨rfl, rfl⟩
theorem rootPart_calls {x r : Nat} (h : rootPartC x = some r) : Calls Try.prog 69 #[.float .f32 x] w fun e w' => e = .returned (.float .f32 r) ∧ w' = w := by
  unfold rootPartC at h
  obtain ⟨p, h1, h⟩ := opg_some h
  have q1 := r32 h1
  have RN := Lib.hid (fun x r (h : rootNum x = some r) w => RootNumber_calls w h)
  by_cases c : lt32 p 0 = true
  · rw [if_pos c] at h
    rw [lt32_eq] at c
    have R := Lib.hid (RN.out 0 r h)
    clear h h1 RN
    go_enter Try.func69, Try.ntmps69
    go_wp2_with fail
    refine (R.out _).mono ?_
    rintro e w1 ⟨rfl, hw1⟩
    obtain rfl := hw1.symm
    go_wp2
    go_ret
    exact ⟨rfl, rfl⟩
  · rw [if_neg c] at h
    rw [lt32_eq] at c
    have c : (FloatKind.f32.format.order p 0 == some .lt) = false := by simpa using c
    have R := Lib.hid (RN.out p r h)
    clear h h1 RN
    go_enter Try.func69, Try.ntmps69
    go_wp2_with fail
    refine (R.out _).mono ?_
    rintro e w1 ⟨rfl, hw1⟩
    obtain rfl := hw1.symm
    go_wp2
    go_ret
    exact ⟨rfl, rfl⟩
theorem neg32 (b : Nat) : Op.unary .neg (.float .f32 b) = pure (.float .f32 (ng32 b)) := rfl
set_option maxHeartbeats 1000000 in
theorem root_calls {a b u v : Nat} (h : rootC a b = some (u, v)) : Calls Try.prog 40 #[.complex .f32 a b] w fun e w' => e = .returned (.complex .f32 u v) ∧ w' = w := by
  unfold rootC at h
  obtain ⟨l, h1, h⟩ := af_some h
  obtain ⟨p, h2, h⟩ := opg_some h
  obtain ⟨x, h3, h⟩ := af_some h
  obtain ⟨q, h4, h⟩ := opg_some h
  obtain ⟨y, h5, h⟩ := af_some h
  have L := Lib.hid (fun w => LongOf_calls w h1)
  have P1 := Lib.hid (fun w => rootPart_calls w h3)
  have P2 := Lib.hid (fun w => rootPart_calls w h5)
  have q1 := r32 h2
  have q2 := r32 h4
  injection h with h
  injection h with e1 e2
  subst e1
  clear h1 h2 h3 h4 h5
  by_cases c : lt32 b 0 = true
  · rw [if_pos c] at e2
    subst e2
    rw [lt32_eq] at c
    have ng := neg32 y
    go_enter Try.func40, Try.ntmps40
    go_wp2_with fail
    refine (L.out _).mono ?_
    rintro e w1 ⟨rfl, hw1⟩
    obtain rfl := hw1.symm
    go_wp2_with fail
    refine (P1.out _).mono ?_
    rintro e w1 ⟨rfl, hw1⟩
    obtain rfl := hw1.symm
    go_wp2_with fail
    refine (P2.out _).mono ?_
    rintro e w1 ⟨rfl, hw1⟩
    obtain rfl := hw1.symm
    go_wp2
    go_ret
    exact ⟨rfl, rfl⟩
  · rw [if_neg c] at e2
    subst e2
    rw [lt32_eq] at c
    have c : (FloatKind.f32.format.order b 0 == some .lt) = false := by simpa using c
    go_enter Try.func40, Try.ntmps40
    go_wp2_with fail
    refine (L.out _).mono ?_
    rintro e w1 ⟨rfl, hw1⟩
    obtain rfl := hw1.symm
    go_wp2_with fail
    refine (P1.out _).mono ?_
    rintro e w1 ⟨rfl, hw1⟩
    obtain rfl := hw1.symm
    go_wp2_with fail
    refine (P2.out _).mono ?_
    rintro e w1 ⟨rfl, hw1⟩
    obtain rfl := hw1.symm
    go_wp2
    go_ret
    exact ⟨rfl, rfl⟩
end
end Go.Proofs.Ythncniomobfoeaa
