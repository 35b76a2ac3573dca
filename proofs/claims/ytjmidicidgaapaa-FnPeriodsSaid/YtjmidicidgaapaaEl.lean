/- Walk: the numbers that a square does not move; that they lie where the square leads them, nearly. Conditions: a number of eighths. -/
import Derived.Test.YtjmidicidgaapaaEk
import Derived.Test.YtjmidicidgaapaaEi
namespace Go.Proofs.Ytjmidicidgaapaa
open Go.RowKit
open Num Quick Circ
attribute [local go_sem] run_store_fl run_store_cx

theorem rCSub {a b c d x y : Nat} (h1 : floatBits .sub .f32 a c = some x) (h2 : floatBits .sub .f32 b d = some y) : ∀ w : World, (binOp .sub 25 (.complex .f32 a b) (.complex .f32 c d)).run Try.prog w = .ok (.complex .f32 x y) w := fun w =>
  run_complex_sum w .sub (.inr rfl) _ .f32 a b c d x y (by unfold cSumBits; rw [h1, h2]; rfl)
theorem rCAdd {a b c d x y : Nat} (h1 : floatBits .add .f32 a c = some x) (h2 : floatBits .add .f32 b d = some y) : ∀ w : World, (binOp .add 25 (.complex .f32 a b) (.complex .f32 c d)).run Try.prog w = .ok (.complex .f32 x y) w := fun w =>
  run_complex_sum w .add (.inl rfl) _ .f32 a b c d x y (by unfold cSumBits; rw [h1, h2]; rfl)
section
variable (w : World)
theorem scale_c {a b s x y : Nat} (h1 : floatBits .mul .f32 a s = some x) (h2 : floatBits .mul .f32 b s = some y) : Calls Try.prog 55 #[.complex .f32 a b, .float .f32 s] w fun e w' => e = .returned (.complex .f32 x y) ∧ w' = w := by
  have q1 := r32 h1
  have q2 := r32 h2
  clear h1 h2
  go_enter Try.func55, Try.ntmps55
  go_wp2
  go_ret
  exact ⟨rfl, rfl⟩
theorem sub_c {a b c d x y : Nat} (h1 : floatBits .sub .f32 a c = some x) (h2 : floatBits .sub .f32 b d = some y) : Calls Try.prog 26 #[.complex .f32 a b, .complex .f32 c d] w fun e w' => e = .returned (.complex .f32 x y) ∧ w' = w := by
  have q1 := r32 h1
  have q2 := r32 h2
  clear h1 h2
  go_enter Try.func26, Try.ntmps26
  go_wp2
  go_ret
  exact ⟨rfl, rfl⟩
theorem add_c {a b c d x y : Nat} (h1 : floatBits .add .f32 a c = some x) (h2 : floatBits .add .f32 b d = some y) : Calls Try.prog 43 #[.complex .f32 a b, .complex .f32 c d] w fun e w' => e = .returned (.complex .f32 x y) ∧ w' = w := by
  have q1 := r32 h1
  have q2 := r32 h2
  clear h1 h2
  go_enter Try.func43, Try.ntmps43
  go_wp2
  go_ret
  exact ⟨rfl, rfl⟩
end
theorem fin3_ok {w : Nat} (h : fin3 w = true) : Fl .f32 w ∧ w < 4294967296 ∧ InR (Num.fv .f32 w) ((3 : Nat) : Rat) := by
  unfold fin3 at h
  simp only [Bool.and_eq_true, decide_eq_true_eq] at h
  obtain ⟨⟨⟨h1, h2⟩, h3⟩, h4⟩ := h
  have hf : Fl .f32 w := h2
  have e3 : ((3 : Nat) : Rat) = 3 := rfl
  have p3 : Fl .f32 1077936128 ∧ Num.fv .f32 1077936128 = 3 := by
    refine ⟨?_, ?_⟩
    · show (1077936128 : Nat) % FloatKind.f32.format.signWeight < FloatKind.f32.format.infRung
      decide +kernel
    · unfold Num.fv val rv p2
      decide +kernel
  have m3 : Fl .f32 3225419776 ∧ Num.fv .f32 3225419776 = -3 := by
    refine ⟨?_, ?_⟩
    · show (3225419776 : Nat) % FloatKind.f32.format.signWeight < FloatKind.f32.format.infRung
      decide +kernel
    · unfold Num.fv val rv p2
      decide +kernel
  rw [le32_eq] at h3 h4
  refine ⟨hf, h1, ?_, ?_⟩
  · rw [e3]
    by_cases c : Num.fv .f32 w ≤ 3
    · exact c
    · have := not_le_cmp hf p3.1 (by rw [p3.2]; exact Rat.not_le.1 c)
      rw [this] at h3
      cases h3
  · rw [e3]
    by_cases c : (-3 : Rat) ≤ Num.fv .f32 w
    · exact c
    · have := not_le_cmp m3.1 hf (by rw [m3.2]; exact Rat.not_le.1 c)
      rw [this] at h4
      cases h4
/-- A square of a number whose product and sum are known. -/
theorem square_once {a b p q m1 m2 z1 z2 : Nat} (M : ∀ w : World, Calls Try.prog 44 #[.complex .f32 a b, .complex .f32 a b] w fun e w' => e = .returned (.complex .f32 m1 m2) ∧ w' = w)
    (A : ∀ w : World, Calls Try.prog 43 #[.complex .f32 m1 m2, .complex .f32 p q] w fun e w' => e = .returned (.complex .f32 z1 z2) ∧ w' = w) (w : World) :
    Calls Try.prog 25 #[mapV 0 (p, q), .complex .f32 a b] w fun e w' => e = .returned (.complex .f32 z1 z2) ∧ Below w.heap.size w w' := by
  have M := Lib.hid M
  have A := Lib.hid A
  have H0 := Lib.hid (below_new w)
  have e0 := (Blk.new w 28 #[.int .i64 0, .complex .f32 p q]).cell 0
  have e1 := (Blk.new w 28 #[.int .i64 0, .complex .f32 p q]).cell 1
  show Calls Try.prog 25 #[.agg #[.int .i64 0, .complex .f32 p q], .complex .f32 a b] w _
  go_enter Try.func25, Try.ntmps25
  go_wp2
  go_quiet (first
    | (go_at_call 44; with_reducible exact Calls.quiet_of_same (M.out _))
    | (go_at_call 43; with_reducible exact Calls.quiet_of_same (A.out _)))
  go_wp2
  go_ret
  exact ⟨rfl, below_drewN'' (H0.out _) _⟩
/-- Whether a length is small enough. -/
def Short (m : Nat) (x y : Nat) : Prop := ∃ l v, (∀ w : World, Calls Try.prog 9 #[.complex .f32 x y] w fun e w' => e = .returned (.float .f32 l) ∧ w' = w) ∧ qwide l = some v ∧ (FloatKind.f64.format.order v m == some .gt) = false
theorem lt_not_gt {v m : Nat} (h : lt v m = true) : (FloatKind.f64.format.order v m == some .gt) = false := by
  rw [lt_eq] at h
  cases e : FloatKind.f64.format.order v m with
  | none => rw [e] at h; cases h
  | some o => rw [e] at h; cases o <;> first | decide | cases h
/-- A number that the square does not move, nearly. -/
structure Stays (p q x y : Nat) : Prop where
  cb : Cb ((3 : Nat) : Rat) (x, y)
  w32 : W32 (x, y)
  once : ∃ u v, (∀ w : World, Calls Try.prog 25 #[mapV 0 (p, q), .complex .f32 x y] w fun e w' => e = .returned (.complex .f32 u v) ∧ Below w.heap.size w w') ∧ Cb ((3 : Nat) : Rat) (u, v) ∧
    ∃ dx dy, (∀ w : World, (binOp .sub 25 (.complex .f32 u v) (.complex .f32 x y)).run Try.prog w = .ok (.complex .f32 dx dy) w) ∧ Short 4562254508917369340 dx dy
theorem stays_of {p q x y : Nat} (hc : Cb ((2 : Nat) : Rat) (p, q)) (h : stayC p q x y = true) : Stays p q x y := by
  unfold stayC at h
  simp only [Bool.and_eq_true] at h
  obtain ⟨⟨f1, f2⟩, h⟩ := h
  obtain ⟨a1, a2, a3⟩ := fin3_ok f1
  obtain ⟨b1, b2, b3⟩ := fin3_ok f2
  have hz : Cb ((3 : Nat) : Rat) (x, y) := ⟨a1, b1, a3, b3⟩
  cases e : mulC x y x y with
  | none => rw [e] at h; cases h
  | some mn =>
    obtain ⟨m, n⟩ := mn
    rw [e] at h
    simp only at h
    split at h
    · rename_i hh
      obtain ⟨u, u1, hh⟩ := opg_some hh
      obtain ⟨v, v1, hh⟩ := opg_some hh
      obtain ⟨dx, d1, hh⟩ := opg_some hh
      obtain ⟨dy, d2, hh⟩ := opg_some hh
      obtain ⟨l, l1, hh⟩ := af_some hh
      obtain ⟨t, t1, hh⟩ := af_some hh
      injection hh with hh
      simp only [Bool.and_eq_true] at hh
      obtain ⟨⟨g1, g2⟩, g3⟩ := hh
      have M : ∀ w : World, Calls Try.prog 44 #[.complex .f32 x y, .complex .f32 x y] w fun e w' => e = .returned (.complex .f32 m n) ∧ w' = w := fun w => mul_calls w e
      have A : ∀ w : World, Calls Try.prog 43 #[.complex .f32 m n, .complex .f32 p q] w fun e w' => e = .returned (.complex .f32 u v) ∧ w' = w := fun w => add_c w u1 v1
      obtain ⟨s1, _, s3⟩ := fin3_ok g2
      obtain ⟨t1', _, t3⟩ := fin3_ok g3
      exact ⟨hz, ⟨a2, b2⟩, u, v, fun w => square_once M A w, ⟨s1, t1', s3, t3⟩, dx, dy, rCSub d1 d2, l, t, fun w => LongOf_calls w l1, t1, lt_not_gt g1⟩
    · cases h
end Go.Proofs.Ytjmidicidgaapaa
