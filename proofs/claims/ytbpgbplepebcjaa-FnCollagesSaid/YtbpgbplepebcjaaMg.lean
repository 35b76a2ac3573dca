/- Walks: what a small map makes of a number, forwards and backwards; whether it is valid. Conditions: parts of middling size. -/
import Derived.Test.YtbpgbplepebcjaaMe
import Derived.Test.YtbpgbplepebcjaaMem
import Derived.Test.YtbpgbplepebcjaaBlk
import Derived.Deep.QuietTactic
import Derived.BigQuiet
import Derived.StillTailTactics
namespace Go.Proofs.Ytbpgbplepebcjaa
open Go.RowKit
open Num Quick

theorem below_drewN {B : Nat} {a w : World} (h : Below B a w) (n : Nat) : Below B a (w.drewN n) := ⟨h.os, h.tape, h.output, h.size, h.block⟩
theorem below_new (w : World) (o : Obj) (n : Nat) : Below w.heap.size w ((w.alloc o).drewN n) := below_drewN ((Below.refl _ _).alloc (Nat.le_refl _) o) n
theorem below_new0 (w : World) (o : Obj) : Below w.heap.size w (w.alloc o) := (Below.refl _ _).alloc (Nat.le_refl _) o
def smallV (a b c d : Nat) (fl : Bool) (s : Nat) : Value := .agg #[.complex .f32 a b, .complex .f32 c d, .bool fl, .float .f32 s]
/-- The imaginary part, turned where the map flips. -/
def flipN (fl : Bool) (z : Nat) : Nat := if fl then ng32 z else z
theorem flipN_num {z : Nat} (fl : Bool) (hz : Fl .f32 z) (hl : z < 4294967296) : Fl .f32 (flipN fl z) ∧ fv .f32 (flipN fl z) = (if fl then -fv .f32 z else fv .f32 z) ∧ flipN fl z < 4294967296 := by
  cases fl
  · exact ⟨hz, rfl, hl⟩
  · exact ng32_num hz hl
set_option maxHeartbeats 1000000 in
theorem maps_w {a b c d s zr zi x y u v : Nat} (fl : Bool) (h1 : ∀ w : World, Calls Try.prog 48 #[.complex .f32 a b, .complex .f32 zr (flipN fl zi)] w fun e w' => e = .returned (.complex .f32 x y) ∧ w' = w)
    (h2 : ∀ w : World, Calls Try.prog 50 #[.complex .f32 x y, .complex .f32 c d] w fun e w' => e = .returned (.complex .f32 u v) ∧ w' = w) (w : World) :
    Calls Try.prog 45 #[smallV a b c d fl s, .complex .f32 zr zi] w fun e w' => e = .returned (.complex .f32 u v) ∧ Below w.heap.size w w' := by
  unfold smallV
  have M1 := Lib.hid h1
  have A1 := Lib.hid h2
  clear h1 h2
  cases fl
  · go_enter Try.func45, Try.ntmps45
    go_wp2
    go_quiet (first
      | (go_at_call 48; exact Calls.quiet_of_same (M1.out _))
      | (go_at_call 50; exact Calls.quiet_of_same (A1.out _)))
    go_wp2
    go_ret
    exact ⟨rfl, below_new _ _ _⟩
  · have C1 := Lib.hid (fun w => conj_w w zr zi)
    go_enter Try.func45, Try.ntmps45
    go_wp2_with fail
    refine (C1.out _).mono ?_
    rintro e w1 ⟨rfl, rfl⟩
    go_wp2
    go_quiet (first
      | (go_at_call 48; exact Calls.quiet_of_same (M1.out _))
      | (go_at_call 50; exact Calls.quiet_of_same (A1.out _)))
    go_wp2
    go_ret
    exact ⟨rfl, below_new _ _ _⟩
set_option maxHeartbeats 1000000 in
theorem back_w {a b c d s zr zi x y u v : Nat} (fl : Bool) (h1 : ∀ w : World, Calls Try.prog 53 #[.complex .f32 zr zi, .complex .f32 c d] w fun e w' => e = .returned (.complex .f32 x y) ∧ w' = w)
    (h2 : ∀ w : World, Calls Try.prog 52 #[.complex .f32 x y, .complex .f32 a b] w fun e w' => e = .returned (.complex .f32 u v) ∧ w' = w) (w : World) :
    Calls Try.prog 46 #[smallV a b c d fl s, .complex .f32 zr zi] w fun e w' => e = .returned (.complex .f32 u (flipN fl v)) ∧ Below w.heap.size w w' := by
  unfold smallV
  have M1 := Lib.hid h1
  have A1 := Lib.hid h2
  clear h1 h2
  cases fl
  · go_enter Try.func46, Try.ntmps46
    go_wp2
    go_quiet (first
      | (go_at_call 53; exact Calls.quiet_of_same (M1.out _))
      | (go_at_call 52; exact Calls.quiet_of_same (A1.out _)))
    go_wp2
    go_ret
    exact ⟨rfl, below_new _ _ _⟩
  · have C1 := Lib.hid (fun w => conj_w w u v)
    go_enter Try.func46, Try.ntmps46
    go_wp2
    go_quiet (first
      | (go_at_call 53; exact Calls.quiet_of_same (M1.out _))
      | (go_at_call 52; exact Calls.quiet_of_same (A1.out _)))
    go_wp2_with fail
    refine (C1.out _).mono ?_
    rintro e w1 ⟨rfl, rfl⟩
    go_wp2
    go_ret
    exact ⟨rfl, below_new _ _ _⟩
/-- A valid small map: parts that are finite and not too great, a turn that is well below 1 and a share. -/
structure OkSmall (a b c d s : Nat) : Prop where
  fa : Fl .f32 a
  fb : Fl .f32 b
  fc : Fl .f32 c
  fd : Fl .f32 d
  fs : Fl .f32 s
  ab : fv .f32 a * fv .f32 a + fv .f32 b * fv .f32 b ≤ 9 / 16
  ic : InR (fv .f32 c) 1000
  id : InR (fv .f32 d) 1000
  s0 : 0 ≤ fv .f32 s
  s1 : fv .f32 s ≤ 1
theorem sq_one {x y : Rat} (h : x * x + y * y ≤ 9 / 16) : InR x 1 := by
  have h1 : 0 ≤ y * y := by
    rcases (Rat.le_total : 0 ≤ y ∨ y ≤ 0) with c | c
    · exact Rat.mul_nonneg c c
    · have := Rat.mul_nonneg (show 0 ≤ -y by grind) (show 0 ≤ -y by grind)
      grind
  constructor
  · exact sq_le (by decide) (by grind)
  · have := sq_le (a := -x) (b := 1) (by decide) (by grind)
    grind
theorem in_mono {x A B : Rat} (h : InR x A) (hAB : A ≤ B) : InR x B := by
  unfold InR at *
  grind
theorem OkSmall.ia {a b c d s : Nat} (h : OkSmall a b c d s) : InR (fv .f32 a) 1 := sq_one h.ab
theorem OkSmall.ib {a b c d s : Nat} (h : OkSmall a b c d s) : InR (fv .f32 b) 1 := sq_one (y := fv .f32 a) (by have := h.ab; grind)
set_option maxHeartbeats 1000000 in
theorem valid_num {a b c d s : Nat} (fl : Bool) (h : OkSmall a b c d s) (w : World) : Calls Try.prog 15 #[smallV a b c d fl s] w fun e w' => e = .returned (.bool true) ∧ Below w.heap.size w w' := by
  unfold smallV
  have S1 := Lib.hid (fun w => isSmall_num h.fa h.fb (in_mono h.ia (by decide)) (in_mono h.ib (by decide)) w)
  have S2 := Lib.hid (fun w => isSmall_num h.fc h.fd h.ic h.id w)
  have S3 := Lib.hid (fun w => isShare_num h.fs h.s0 h.s1 w)
  obtain ⟨r, r1, r2⟩ := long_num h.fa h.fb (in_mono h.ia (by decide)) (in_mono h.ib (by decide))
  obtain ⟨_, r2⟩ := r2
  have hr : fv .f32 r ≤ 3 / 4 := by
    have hrep := rep_frac .f32 3 2 (by decide) (by decide)
    have e : ((3 : Int) : Rat) / ((2 ^ 2 : Nat) : Rat) = 3 / 4 := by decide +kernel
    rw [e] at hrep
    exact r2.le _ hrep (by decide +kernel) (by have := h.ab; have e2 : (3 : Rat) / 4 * (3 / 4) = 9 / 16 := by decide +kernel
                                               grind)
  have hlt := (lt_cmp r2.fin c1.1 (by rw [c1.2]; grind)).1
  have L1 := Lib.hid r1
  clear r1 r2 hr h
  go_enter Try.func15, Try.ntmps15
  go_wp2_with fail
  refine (S1.out _).mono ?_
  rintro e w1 ⟨rfl, hw1⟩
  obtain rfl := hw1.symm
  go_wp2_with fail
  refine (L1.out _).mono ?_
  rintro e w1 ⟨rfl, hw1⟩
  obtain rfl := hw1.symm
  go_wp2_with fail
  refine (S2.out _).mono ?_
  rintro e w1 ⟨rfl, hw1⟩
  obtain rfl := hw1.symm
  go_wp2_with fail
  refine (S3.out _).mono ?_
  rintro e w1 ⟨rfl, hw1⟩
  obtain rfl := hw1.symm
  go_wp2
  go_ret
  exact ⟨rfl, below_new0 _ _⟩
end Go.Proofs.Ytbpgbplepebcjaa
