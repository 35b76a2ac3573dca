/- Walks: the laws' own functions on lists of single numbers: those that compare, copy, mark, and look whether the marks are held. Conditions: as each says. -/
import Derived.Test.YtbkacmklgkgamaaFx
import Derived.WalkSpells
namespace Go.Proofs.Ytbkacmklgkgamaa
open Go.RowKit

section
variable (x : Nat) (w : World)
theorem sameFloat_nan (y : Nat) (h : FloatKind.f64.format.order x x = none) (h' : FloatKind.f64.format.order y y = none) :
    Calls Try.prog 23 #[.float .f64 x, .float .f64 y] w fun e w' => e = .returned (.bool true) ∧ w' = w := by
  have h1 : (FloatKind.f64.format.order x x != some Ordering.eq) = true := by rw [h]; rfl
  have h2 : (FloatKind.f64.format.order y y != some Ordering.eq) = true := by rw [h']; rfl
  clear h h'
  go_enter Try.func23, Try.ntmps23
  go_wp2
  go_ret
  exact ⟨rfl, rfl⟩

theorem sameFloat_num (h : FloatKind.f64.format.order x x = some .eq) (h0 : FloatKind.f64.format.order x 0 ≠ some .eq) :
    Calls Try.prog 23 #[.float .f64 x, .float .f64 x] w fun e w' => e = .returned (.bool true) ∧ w' = w := by
  have h1 : (FloatKind.f64.format.order x x != some Ordering.eq) = false := by rw [h]; rfl
  have h2 : (FloatKind.f64.format.order x x == some Ordering.eq) = true := by rw [h]; rfl
  have h3 : (FloatKind.f64.format.order x 0 == some Ordering.eq) = false := by simpa using h0
  clear h h0
  go_enter Try.func23, Try.ntmps23
  go_wp2
  go_ret
  exact ⟨rfl, rfl⟩

theorem sameFloat_zero (r : Nat) (h : FloatKind.f64.format.order x x = some .eq) (h0 : FloatKind.f64.format.order x 0 = some .eq)
    (hq : ∀ w : World, (binOp .quo 56 (.float .f64 4607182418800017408) (.float .f64 x)).run Try.prog w = .ok (.float .f64 r) w) :
    Calls Try.prog 23 #[.float .f64 x, .float .f64 x] w fun e w' => e = .returned (.bool true) ∧ w' = w := by
  have h1 : (FloatKind.f64.format.order x x != some Ordering.eq) = false := by rw [h]; rfl
  have h3 : (FloatKind.f64.format.order x 0 == some Ordering.eq) = true := by rw [h0]; rfl
  clear h h0
  go_enter Try.func23, Try.ntmps23
  go_wp2
  go_ret
  exact ⟨by simp, rfl⟩
end

theorem quo_zero (x : Nat) (h : x = 0 ∨ x = 9223372036854775808) : ∃ r, ∀ w : World, (binOp .quo 56 (.float .f64 4607182418800017408) (.float .f64 x)).run Try.prog w = .ok (.float .f64 r) w := by
  rcases h with rfl | rfl
  · exact ⟨_, fun w => run_float_arith w .quo _ .f64 _ _ 9218868437227405312 (by decide)⟩
  · exact ⟨_, fun w => run_float_arith w .quo _ .f64 _ _ 18442240474082181120 (by decide)⟩

theorem sameFloat_same (x : Nat) (w : World) (hx : x < 2 ^ 64) : Calls Try.prog 23 #[.float .f64 x, .float .f64 x] w fun e w' => e = .returned (.bool true) ∧ w' = w := by
  rcases order_self FloatKind.f64.format x with h | h
  · by_cases h0 : FloatKind.f64.format.order x 0 = some .eq
    · obtain ⟨r, hq⟩ := quo_zero x (double_zero hx h0)
      exact sameFloat_zero x w r h h0 hq
    · exact sameFloat_num x w h h0
  · exact sameFloat_nan x w x h h


theorem sameFloat_wide {x r r' : Nat} (h : WR x r) (h' : WR x r') (w : World) : Calls Try.prog 23 #[.float .f64 r, .float .f64 r'] w fun e w' => e = .returned (.bool true) ∧ w' = w := by
  rcases wide_same h h' with rfl | ⟨k, k'⟩
  · exact sameFloat_same _ w h.1
  · exact sameFloat_nan r w r' k k'
set_option maxRecDepth 100000 in
set_option maxHeartbeats 1000000 in
theorem eqFloat32S_same (A A' : Option Addr) (n c c' : Nat) (xs : List Nat) (w : World) (hn : n ≤ maxLen)
    (hA : Rd w w.heap.size 1 A n (xs.map fv)) (hA' : Rd w w.heap.size 1 A' n (xs.map fv)) :
    Calls Try.prog 24 #[.slice A n c, .slice A' n c'] w fun e w' => e = .returned (.bool true) ∧ Below w.heap.size w w' := by
  unfold maxLen at hn
  have hl : xs.length = n := by have := hA.len; simpa using this
  have HA := Lib.hid hA
  have HA' := Lib.hid hA'
  clear hA hA'
  go_enter Try.func24, Try.ntmps24
  go_wp2
  go_loopw [5] (fun i wr => ∃ k : Nat, k ≤ n ∧ i = .int .i64 k ∧ Below w.heap.size w wr) (fun i _ => n - (intOf i).toNat)
  case atStart => exact ⟨0, Nat.zero_le _, rfl, Below.refl _ _⟩
  case round =>
    obtain ⟨k, hk, rfl, hb⟩ := hrel
    by_cases hlt : k < n
    · obtain ⟨b, off, rfl, hbb, hc⟩ := HA.out.2 (by omega)
      obtain ⟨b', off', rfl, hbb', hc'⟩ := HA'.out.2 (by omega)
      have hkl : k < xs.length := by omega
      have ex : (xs.map fv)[k]? = some (.float .f32 xs[k]) := by rw [List.getElem?_map, List.getElem?_eq_getElem hkl]; rfl
      have c1 : wr.cell? ⟨b, off + k, none⟩ = some (.float .f32 xs[k]) := (hb.cell hbb).trans (hc _ _ ex)
      have c3 : wr.cell? ⟨b', off' + k, none⟩ = some (.float .f32 xs[k]) := (hb.cell hbb').trans (hc' _ _ ex)
      clear hc hc' ex
      generalize xs[k] = p at *
      have Hb := Lib.hid hb
      have hk0 : (0 : Int) ≤ (k : Int) := by omega
      have hk1 : (k : Int) < (n : Int) := by omega
      clear hb
      go_wp2
      refine wp_region_lo 10 (by kernel_rfl) (by kernel_rfl) ?_
      simp only [List.take_succ_cons, List.take_zero, List.drop_succ_cons, List.drop_zero]
      iterate 4 (refine lo_still (fun K hK => ?_); go_simp; refine hK _ ?_; clear hK K)
      refine lo_wide rfl 50 56 _ rfl p (by kernel_rfl) Try.underlying56 rfl ?_
      intro r1 hr1
      iterate 4 (refine lo_still (fun K hK => ?_); go_simp; refine hK _ ?_; clear hK K)
      refine lo_wide rfl 50 56 _ rfl p (by kernel_rfl) Try.underlying56 rfl ?_
      intro r2 hr2
      refine wpLo_nil ?_
      intro m
      have SF := Lib.hid (fun w => sameFloat_wide hr1 hr2 w)
      have hbm := below_drewN' Hb.out m
      have HBM := Lib.hid hbm
      clear hbm hr1 hr2
      generalize hwm : World.drewN _ m = wm at *
      go_wp2_with fail
      refine (SF.out _).mono ?_
      rintro e w5 ⟨rfl, hw5⟩
      obtain rfl := hw5.symm
      go_wp2
      go_roundw
      case rel => exact ⟨k + 1, by omega, by go_num, HBM.out⟩
      case measure => simp [intOf]; omega
    · go_wp2
      go_ret
      exact ⟨rfl, hb⟩
end Go.Proofs.Ytbkacmklgkgamaa
