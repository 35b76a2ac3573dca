/- Walk: whether pieces cross, by the words. Conditions: the words are as told. -/
import Derived.Test.YtkldgcgijkfpaaaCoh
import Derived.BigQuiet
import Derived.Deep.QuietTactic
namespace Go.Proofs.Ytkldgcgijkfpaaa
open Go.RowKit
open Num Quick
attribute [local go_sem] run_store_fl run_store_cx

def og {α : Type} (op : BinOp) (x y : Nat) (k : Nat → Option α) : Option α := (qbits op .f32 x y).bind fun r => fo r k
theorem og_some {α : Type} {op : BinOp} {x y : Nat} {k : Nat → Option α} {v : α} (h : og op x y k = some v) : ∃ r, floatBits op .f32 x y = some r ∧ k r = some v := by
  unfold og at h
  rw [qbits_eq] at h
  cases e : floatBits op .f32 x y with
  | none => rw [e] at h; cases h
  | some r => rw [e] at h; refine ⟨r, rfl, ?_⟩; rw [← h]; exact (fo_eq r k).symm
def subP {α : Type} (x y : Nat × Nat) (k : Nat → Nat → Option α) : Option α := og .sub x.1 y.1 fun u => og .sub x.2 y.2 fun v => k u v
def sideP {α : Type} (a b c d : Nat) (k : Nat → Option α) : Option α := og .mul a d fun p => og .mul b c fun q => og .sub p q fun r => k r
/-- The four sides. -/
def crossS (a b c d : Nat × Nat) : Option (Nat × Nat × Nat × Nat) :=
  subP b a fun v1 v2 => subP d c fun w1 w2 => subP c a fun e1 e2 => sideP v1 v2 e1 e2 fun s1 => subP d a fun f1 f2 => sideP v1 v2 f1 f2 fun s2 =>
  subP a c fun g1 g2 => sideP w1 w2 g1 g2 fun s3 => subP b c fun h1 h2 => sideP w1 w2 h1 h2 fun s4 => some (s1, s2, s3, s4)
def gt0 (x : Nat) : Bool := FloatKind.f32.format.order x 0 == some .gt
def lt0 (x : Nat) : Bool := FloatKind.f32.format.order x 0 == some .lt
def differ (m n : Nat) : Bool := (gt0 m && lt0 n) || (lt0 m && gt0 n)
theorem side_w {a b c d p q r : Nat} (h1 : floatBits .mul .f32 a d = some p) (h2 : floatBits .mul .f32 b c = some q) (h3 : floatBits .sub .f32 p q = some r) (w : World) : Calls Try.prog 47 #[.complex .f32 a b, .complex .f32 c d] w fun e w' => e = .returned (.float .f32 r) ∧ w' = w := by
  have q1 := r32 h1
  have q2 := r32 h2
  have q3 := r32 h3
  clear h1 h2 h3
  go_enter Try.func47, Try.ntmps47
  go_wp2
  go_ret
  exact ⟨rfl, rfl⟩
theorem differ_w (m n : Nat) (w : World) : Calls Try.prog 78 #[.float .f32 m, .float .f32 n] w fun e w' => e = .returned (.bool (differ m n)) ∧ w' = w := by
  unfold differ gt0 lt0
  obtain ⟨a, ea⟩ : ∃ a, (FloatKind.f32.format.order m 0 == some .gt) = a := ⟨_, rfl⟩
  obtain ⟨b, eb⟩ : ∃ a, (FloatKind.f32.format.order n 0 == some .lt) = a := ⟨_, rfl⟩
  obtain ⟨c, ec⟩ : ∃ a, (FloatKind.f32.format.order m 0 == some .lt) = a := ⟨_, rfl⟩
  obtain ⟨d, ed⟩ : ∃ a, (FloatKind.f32.format.order n 0 == some .gt) = a := ⟨_, rfl⟩
  rw [ea, eb, ec, ed]
  cases a <;> cases b <;> cases c <;> cases d
  all_goals
    go_enter Try.func78, Try.ntmps78
    go_wp2
    go_ret
    exact ⟨rfl, rfl⟩
set_option maxRecDepth 100000 in
set_option maxHeartbeats 4000000 in
theorem cross_ok {a b c d : Nat × Nat} {s1 s2 s3 s4 : Nat} (h : crossS a b c d = some (s1, s2, s3, s4)) (w : World) : Calls Try.prog 59 #[.complex .f32 a.1 a.2, .complex .f32 b.1 b.2, .complex .f32 c.1 c.2, .complex .f32 d.1 d.2] w fun e w' => e = .returned (.bool (differ s1 s2 && differ s3 s4)) ∧ w' = w := by
  unfold crossS subP sideP at h
  obtain ⟨v1, e1, h⟩ := og_some h
  obtain ⟨v2, e2, h⟩ := og_some h
  obtain ⟨w1, e3, h⟩ := og_some h
  obtain ⟨w2, e4, h⟩ := og_some h
  obtain ⟨x1, e5, h⟩ := og_some h
  obtain ⟨x2, e6, h⟩ := og_some h
  obtain ⟨p1, e7, h⟩ := og_some h
  obtain ⟨p2', e8, h⟩ := og_some h
  obtain ⟨t1, e9, h⟩ := og_some h
  obtain ⟨y1, f1, h⟩ := og_some h
  obtain ⟨y2, f2, h⟩ := og_some h
  obtain ⟨p3, f3, h⟩ := og_some h
  obtain ⟨p4, f4, h⟩ := og_some h
  obtain ⟨t2, f5, h⟩ := og_some h
  obtain ⟨g1, k1, h⟩ := og_some h
  obtain ⟨g2, k2, h⟩ := og_some h
  obtain ⟨p5, k3, h⟩ := og_some h
  obtain ⟨p6, k4, h⟩ := og_some h
  obtain ⟨t3, k5, h⟩ := og_some h
  obtain ⟨z1, l1, h⟩ := og_some h
  obtain ⟨z2, l2, h⟩ := og_some h
  obtain ⟨p7, l3, h⟩ := og_some h
  obtain ⟨p8, l4, h⟩ := og_some h
  obtain ⟨t4, l5, h⟩ := og_some h
  simp only [Option.some.injEq, Prod.mk.injEq] at h
  obtain ⟨rfl, rfl, rfl, rfl⟩ := h
  have A1 := Lib.hid (fun w => sub_w e1 e2 w)
  have A2 := Lib.hid (fun w => sub_w e3 e4 w)
  have A3 := Lib.hid (fun w => sub_w e5 e6 w)
  have A4 := Lib.hid (fun w => side_w e7 e8 e9 w)
  have A5 := Lib.hid (fun w => sub_w f1 f2 w)
  have A6 := Lib.hid (fun w => side_w f3 f4 f5 w)
  have A7 := Lib.hid (fun w => sub_w k1 k2 w)
  have A8 := Lib.hid (fun w => side_w k3 k4 k5 w)
  have A9 := Lib.hid (fun w => sub_w l1 l2 w)
  have B1 := Lib.hid (fun w => side_w l3 l4 l5 w)
  have D1 := Lib.hid (fun w => differ_w t1 t2 w)
  have D2 := Lib.hid (fun w => differ_w t3 t4 w)
  generalize differ t1 t2 = r1 at *
  generalize differ t3 t4 = r2 at *
  clear e1 e2 e3 e4 e5 e6 e7 e8 e9 f1 f2 f3 f4 f5 k1 k2 k3 k4 k5 l1 l2 l3 l4 l5
  go_enter Try.func59, Try.ntmps59
  go_wp2_with fail
  refine (A1.out _).mono ?_
  rintro e w5 ⟨rfl, hw5⟩
  obtain rfl := hw5.symm
  go_wp2_with fail
  refine (A2.out _).mono ?_
  rintro e w5 ⟨rfl, hw5⟩
  obtain rfl := hw5.symm
  go_wp2_with fail
  refine (A3.out _).mono ?_
  rintro e w5 ⟨rfl, hw5⟩
  obtain rfl := hw5.symm
  go_wp2_with fail
  refine (A4.out _).mono ?_
  rintro e w5 ⟨rfl, hw5⟩
  obtain rfl := hw5.symm
  go_wp2_with fail
  refine (A5.out _).mono ?_
  rintro e w5 ⟨rfl, hw5⟩
  obtain rfl := hw5.symm
  go_wp2_with fail
  refine (A6.out _).mono ?_
  rintro e w5 ⟨rfl, hw5⟩
  obtain rfl := hw5.symm
  go_wp2_with fail
  refine (D1.out _).mono ?_
  rintro e w5 ⟨rfl, hw5⟩
  obtain rfl := hw5.symm
  clear A1 A2 A3 A4 A5 A6 D1
  cases r1 with
  | false =>
    go_wp2
    go_ret
    exact ⟨rfl, rfl⟩
  | true =>
    go_wp2_with fail
    refine (A7.out _).mono ?_
    rintro e w5 ⟨rfl, hw5⟩
    obtain rfl := hw5.symm
    go_wp2_with fail
    refine (A8.out _).mono ?_
    rintro e w5 ⟨rfl, hw5⟩
    obtain rfl := hw5.symm
    go_wp2_with fail
    refine (A9.out _).mono ?_
    rintro e w5 ⟨rfl, hw5⟩
    obtain rfl := hw5.symm
    go_wp2_with fail
    refine (B1.out _).mono ?_
    rintro e w5 ⟨rfl, hw5⟩
    obtain rfl := hw5.symm
    go_wp2_with fail
    refine (D2.out _).mono ?_
    rintro e w5 ⟨rfl, hw5⟩
    obtain rfl := hw5.symm
    go_wp2
    go_ret
    exact ⟨by simp, rfl⟩
end Go.Proofs.Ytkldgcgijkfpaaa
