/- Walks: lengths and roots of complex numbers, and the numbers that a square does not move. Conditions: the plain functions give numbers. -/
import Derived.Test.YtjmidicidgaapaaEj
import Derived.Test.YtjmidicidgaapaaEb
import Derived.Test.YtjmidicidgaapaaCf
namespace Go.Proofs.Ytjmidicidgaapaa
open Go.RowKit
open Num Quick Circ
attribute [local go_sem] run_store_fl run_store_cx

section
variable (w : World)
theorem LongOf_calls {a b r : Nat} (h : longC a b = some r) : Calls Try.prog 9 #[.complex .f32 a b] w fun e w' => e = .returned (.float .f32 r) ∧ w' = w := by
  unfold longC at h
  obtain ⟨x, h1, h⟩ := af_some h
  obtain ⟨y, h2, h⟩ := af_some h
  obtain ⟨p, h3, h⟩ := opf_some h
  obtain ⟨q, h4, h⟩ := opf_some h
  obtain ⟨u, h5, h⟩ := opf_some h
  obtain ⟨s, h6, h⟩ := af_some h
  obtain ⟨t, h7, h⟩ := af_some h
  obtain rfl : t = r := by simpa using h
  have C1 := Lib.hid (fun w => power_w (w := w) h1 h2 h3 h4 h5)
  have S1 := Lib.hid (fun w => sqrt_w (w := w) ((qsqrt_eq u).symm.trans h6))
  have k1 := rNarrow h7
  clear h1 h2 h3 h4 h5 h6 h7 h
  go_enter Try.func9, Try.ntmps9
  go_wp2_with fail
  refine (C1.out _).mono ?_
  rintro e w1 ⟨rfl, hw1⟩
  obtain rfl := hw1.symm
  go_wp2_with fail
  refine (S1.out _).mono ?_
  rintro e w1 ⟨rfl, hw1⟩
  obtain rfl := hw1.symm
  go_wp2
  go_ret
  exact ⟨rfl, rfl⟩
theorem neg32 (b : Nat) : Op.unary .neg (.float .f32 b) = pure (.float .f32 (ng32 b)) := rfl
end
end Go.Proofs.Ytjmidicidgaapaa
