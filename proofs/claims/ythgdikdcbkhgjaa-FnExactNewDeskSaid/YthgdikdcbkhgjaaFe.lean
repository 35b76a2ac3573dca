/- Walks: the laws' own comparison of floats, on one and the same number. Condition: the bits are below 2 to the power of 64. -/
import Derived.Test.YthgdikdcbkhgjaaRows
import Derived.Test.YthgdikdcbkhgjaaMem
import Derived.Test.YthgdikdcbkhgjaaFl
import Derived.WalkSpells
import Derived.WalkLawsBesides
import Derived.Handy
import Derived.StillTailTactics
import Derived.Deep.QuietTactic
import Derived.BigQuiet
namespace Go.Proofs.Ythgdikdcbkhgjaa
open Go.RowKit

section
variable (x : Nat) (w : World)
theorem sameFloat_nan (y : Nat) (h : FloatKind.f64.format.order x x = none) (h' : FloatKind.f64.format.order y y = none) :
    Calls Try.prog 32 #[.float .f64 x, .float .f64 y] w fun e w' => e = .returned (.bool true) ∧ w' = w := by
  have h1 : (FloatKind.f64.format.order x x != some Ordering.eq) = true := by rw [h]; rfl
  have h2 : (FloatKind.f64.format.order y y != some Ordering.eq) = true := by rw [h']; rfl
  clear h h'
  go_enter Try.func32, Try.ntmps32
  go_wp2
  go_ret
  exact ⟨rfl, rfl⟩

theorem sameFloat_num (h : FloatKind.f64.format.order x x = some .eq) (h0 : FloatKind.f64.format.order x 0 ≠ some .eq) :
    Calls Try.prog 32 #[.float .f64 x, .float .f64 x] w fun e w' => e = .returned (.bool true) ∧ w' = w := by
  have h1 : (FloatKind.f64.format.order x x != some Ordering.eq) = false := by rw [h]; rfl
  have h2 : (FloatKind.f64.format.order x x == some Ordering.eq) = true := by rw [h]; rfl
  have h3 : (FloatKind.f64.format.order x 0 == some Ordering.eq) = false := by simpa using h0
  clear h h0
  go_enter Try.func32, Try.ntmps32
  go_wp2
  go_ret
  exact ⟨rfl, rfl⟩

theorem sameFloat_zero (r : Nat) (h : FloatKind.f64.format.order x x = some .eq) (h0 : FloatKind.f64.format.order x 0 = some .eq)
    (hq : ∀ w : World, (binOp .quo 66 (.float .f64 4607182418800017408) (.float .f64 x)).run Try.prog w = .ok (.float .f64 r) w) :
    Calls Try.prog 32 #[.float .f64 x, .float .f64 x] w fun e w' => e = .returned (.bool true) ∧ w' = w := by
  have h1 : (FloatKind.f64.format.order x x != some Ordering.eq) = false := by rw [h]; rfl
  have h3 : (FloatKind.f64.format.order x 0 == some Ordering.eq) = true := by rw [h0]; rfl
  clear h h0
  go_enter Try.func32, Try.ntmps32
  go_wp2
  go_ret
  exact ⟨by simp, rfl⟩
end

theorem quo_zero (x : Nat) (h : x = 0 ∨ x = 9223372036854775808) : ∃ r, ∀ w : World, (binOp .quo 66 (.float .f64 4607182418800017408) (.float .f64 x)).run Try.prog w = .ok (.float .f64 r) w := by
  rcases h with rfl | rfl
  · exact ⟨_, fun w => run_float_arith w .quo _ .f64 _ _ 9218868437227405312 (by decide)⟩
  · exact ⟨_, fun w => run_float_arith w .quo _ .f64 _ _ 18442240474082181120 (by decide)⟩

theorem sameFloat_same (x : Nat) (w : World) (hx : x < 2 ^ 64) : Calls Try.prog 32 #[.float .f64 x, .float .f64 x] w fun e w' => e = .returned (.bool true) ∧ w' = w := by
  rcases order_self FloatKind.f64.format x with h | h
  · by_cases h0 : FloatKind.f64.format.order x 0 = some .eq
    · obtain ⟨r, hq⟩ := quo_zero x (double_zero hx h0)
      exact sameFloat_zero x w r h h0 hq
    · exact sameFloat_num x w h h0
  · exact sameFloat_nan x w x h h

theorem sameComplex_same (x y : Nat) (w : World) (hx : x < 2 ^ 64) (hy : y < 2 ^ 64) :
    Calls Try.prog 31 #[.complex .f64 x y, .complex .f64 x y] w fun e w' => e = .returned (.bool true) ∧ w' = w := by
  have c1 := fun w => sameFloat_same x w hx
  have c2 := fun w => sameFloat_same y w hy
  have C1 := Lib.hid c1
  have C2 := Lib.hid c2
  clear c1 c2
  go_enter Try.func31, Try.ntmps31
  go_wp2_with fail
  refine (C1.out _).mono ?_
  rintro e w' ⟨rfl, rfl⟩
  go_wp2_with fail
  refine (C2.out _).mono ?_
  rintro e w' ⟨rfl, rfl⟩
  go_wp2
  go_ret
  exact ⟨rfl, rfl⟩

/-- Both parts of a complex64 are no not-a-numbers: they have a wide form. -/
def Cok (p : Nat × Nat) : Prop := ∃ re im, cConvBits .f32 p.1 p.2 .f64 = some (re, im)

theorem conv_c (a b re im : Nat) (h : cConvBits .f32 a b .f64 = some (re, im)) : ∀ w : World, (convert 22 64 (.complex .f32 a b)).run Try.prog w = .ok (.complex .f64 re im) w :=
  fun w => run_convert_complex w 22 64 .f32 .f64 a b re im (by kernel_rfl) Try.underlying64 h
theorem conv_c_lt {a b re im : Nat} (ha : a < 2 ^ 32) (hb : b < 2 ^ 32) (h : cConvBits .f32 a b .f64 = some (re, im)) : re < 2 ^ 64 ∧ im < 2 ^ 64 := by
  unfold cConvBits at h
  obtain ⟨r, hr, h⟩ := Option.bind_eq_some_iff.1 h
  obtain ⟨i, hi, h⟩ := Option.bind_eq_some_iff.1 h
  cases h
  have f1 := floatToFloatBits_wf (by simp [Lit.wf]; omega) hr
  have f2 := floatToFloatBits_wf (by simp [Lit.wf]; omega) hi
  simp [Lit.wf] at f1 f2
  omega

theorem eqMap_same (k : Int) (a b : Nat) (w : World) (ha : a < 2 ^ 32) (hb : b < 2 ^ 32) (h : Cok (a, b)) :
    Calls Try.prog 17 #[.agg #[.int .i64 k, .complex .f32 a b], .agg #[.int .i64 k, .complex .f32 a b]] w fun e w' => e = .returned (.bool true) ∧ Below w.heap.size w w' := by
  obtain ⟨re, im, h⟩ := h
  obtain ⟨hr, hi⟩ := conv_c_lt ha hb h
  have hc := conv_c a b re im h
  have c1 := fun w => sameComplex_same re im w hr hi
  have C1 := Lib.hid c1
  clear c1 h
  go_enter Try.func17, Try.ntmps17
  go_wp2_with fail
  refine (C1.out _).mono ?_
  rintro e w' ⟨rfl, rfl⟩
  go_wp2
  go_ret
  exact ⟨rfl, by go_grown⟩

def cv (p : Nat × Nat) : Value := .complex .f32 p.1 p.2

set_option maxRecDepth 100000 in
set_option maxHeartbeats 400000 in
theorem eqComplex64S_same (A A' : Option Addr) (n c c' : Nat) (xs : List (Nat × Nat)) (w : World) (hn : n ≤ maxLen) (hx : ∀ p ∈ xs, p.1 < 2 ^ 32 ∧ p.2 < 2 ^ 32 ∧ Cok p)
    (hA : Rd w w.heap.size 1 A n (xs.map cv)) (hA' : Rd w w.heap.size 1 A' n (xs.map cv)) :
    Calls Try.prog 19 #[.slice A n c, .slice A' n c'] w fun e w' => e = .returned (.bool true) ∧ Below w.heap.size w w' := by
  unfold maxLen at hn
  have hl : xs.length = n := by have := hA.len; simpa using this
  go_enter Try.func19, Try.ntmps19
  go_wp2
  go_loopw [5] (fun i wr => ∃ k : Nat, k ≤ n ∧ i = .int .i64 k ∧ Below w.heap.size w wr) (fun i _ => n - (intOf i).toNat)
  case atStart => exact ⟨0, Nat.zero_le _, rfl, Below.refl _ _⟩
  case round =>
    obtain ⟨k, hk, rfl, hb⟩ := hrel
    by_cases hlt : k < n
    · obtain ⟨b, off, rfl, hbb, hc⟩ := hA.2 (by omega)
      obtain ⟨b', off', rfl, hbb', hc'⟩ := hA'.2 (by omega)
      have hkl : k < xs.length := by omega
      obtain ⟨h1, h2, re, im, h3⟩ := hx _ (List.getElem_mem hkl)
      obtain ⟨hr, hi⟩ := conv_c_lt h1 h2 h3
      have hcv := conv_c _ _ re im h3
      have ex : (xs.map cv)[k]? = some (.complex .f32 xs[k].1 xs[k].2) := by rw [List.getElem?_map, List.getElem?_eq_getElem hkl]; rfl
      have c1 : wr.cell? ⟨b, off + k, none⟩ = some (.complex .f32 xs[k].1 xs[k].2) := (hb.cell hbb).trans (hc _ _ ex)
      have c3 : wr.cell? ⟨b', off' + k, none⟩ = some (.complex .f32 xs[k].1 xs[k].2) := (hb.cell hbb').trans (hc' _ _ ex)
      have q1 := fun w => sameComplex_same re im w hr hi
      have Q1 := Lib.hid q1
      clear hc hc' ex h3 q1
      generalize xs[k] = p at *
      have Hb := Lib.hid hb
      go_wp2
      go_quiet ((go_at_call 31; exact Calls.quiet_of_same (Q1.out _)))
      go_wp2
      go_roundw
      case rel => exact ⟨k + 1, by omega, by go_num, ⟨Hb.out.os, Hb.out.tape, Hb.out.output, Hb.out.size, Hb.out.block⟩⟩
      case measure => simp [intOf]; omega
    · go_wp2
      go_ret
      exact ⟨rfl, hb⟩

theorem eqView_same (a b s : Nat) (c r : Int) (w : World) (ha : a < 2 ^ 32) (hb : b < 2 ^ 32) (hs : s < 2 ^ 32) (h : Cok (a, b)) (h' : Cok (s, s)) :
    Calls Try.prog 18 #[.agg #[.complex .f32 a b, .float .f32 s, .int .i64 c, .int .i64 r], .agg #[.complex .f32 a b, .float .f32 s, .int .i64 c, .int .i64 r]] w fun e w' => e = .returned (.bool true) ∧ Below w.heap.size w w' := by
  obtain ⟨re, im, h⟩ := h
  obtain ⟨hr, hi⟩ := conv_c_lt ha hb h
  have hc := conv_c a b re im h
  obtain ⟨s1, s2, h'⟩ := h'
  obtain ⟨hs1, _⟩ := conv_c_lt hs hs h'
  have hf : ∀ w : World, (convert 25 66 (.float .f32 s)).run Try.prog w = .ok (.float .f64 s1) w := by
    unfold cConvBits at h'
    obtain ⟨q, hq, h'⟩ := Option.bind_eq_some_iff.1 h'
    obtain ⟨q', hq', h'⟩ := Option.bind_eq_some_iff.1 h'
    cases h'
    exact fun w => run_convert_float_float w 25 66 .f32 .f64 s s1 (by kernel_rfl) Try.underlying66 hq
  have c1 := fun w => sameComplex_same re im w hr hi
  have c2 := fun w => sameFloat_same s1 w hs1
  have C1 := Lib.hid c1
  have C2 := Lib.hid c2
  clear c1 c2 h h'
  go_enter Try.func18, Try.ntmps18
  go_wp2_with fail
  refine (C1.out _).mono ?_
  rintro e w' ⟨rfl, rfl⟩
  go_wp2_with fail
  refine (C2.out _).mono ?_
  rintro e w' ⟨rfl, rfl⟩
  go_wp2
  go_ret
  exact ⟨rfl, by go_grown⟩
end Go.Proofs.Ythgdikdcbkhgjaa
