/- Plain law: what the law on turtles asks of lengths and areas. Conditions: as stated at each. -/
import Derived.Test.YtkldgcgijkfpaaaTuo
import Derived.Test.YtkldgcgijkfpaaaTup
import Derived.Test.YtkldgcgijkfpaaaTuk
namespace Go.Proofs.Ytkldgcgijkfpaaa
open Go.RowKit
open Num Quick

theorem gap_rep {x y : Nat} {B : Rat} (hx : Fl .f64 x) (hy : Fl .f64 y) (h : InR (Num.fv .f64 x - Num.fv .f64 y) B) (hB : B ≤ 100000) (m : Int) (n : Nat) (hm : m.natAbs ≤ 16777216) (hn : n ≤ 149) (hv : B = (m : Rat) / ((2 ^ n : Nat) : Rat)) :
    ∃ r, (∀ w : World, Calls Try.prog 11 #[.float .f64 x, .float .f64 y] w fun e w' => e = .returned (.float .f64 r) ∧ w' = w) ∧ Fl .f64 r ∧ Num.fv .f64 r ≤ B ∧ 0 ≤ Num.fv .f64 r := by
  have t : (100000 : Rat) ≤ top := by decide +kernel
  obtain ⟨T, eT⟩ : ∃ T : Rat, top = T := ⟨_, rfl⟩
  rw [eT] at t
  obtain ⟨d, d1, d2⟩ := fsub hx hy (by rw [eT]; unfold InR at *; grind) (by rw [eT]; unfold InR at *; grind)
  obtain ⟨e, e1, e2⟩ := fsub hy hx (by rw [eT]; unfold InR at *; grind) (by rw [eT]; unfold InR at *; grind)
  have hrep := rep_frac .f64 m n hm hn
  rw [← hv] at hrep
  have i1 := d2.le _ hrep h.1
  have i2 := e2.le _ hrep (by have := h.2; grind)
  obtain ⟨r, hr, h1, h2, hmx⟩ := fmax_num d2.fin e2.fin
  have fr : Fl .f64 r := by rcases hr with rfl | rfl; exact d2.fin; exact e2.fin
  have lr : Num.fv .f64 r ≤ B := by rcases hr with rfl | rfl; exact i1; exact i2
  have nr : 0 ≤ Num.fv .f64 r := by
    rcases (Rat.le_total : Num.fv .f64 y ≤ Num.fv .f64 x ∨ Num.fv .f64 x ≤ Num.fv .f64 y) with c | c
    · have z := d2.ge_int 0 (by decide) (by show (0 : Rat) ≤ _; grind)
      exact Rat.le_trans z h1
    · have z := e2.ge_int 0 (by decide) (by show (0 : Rat) ≤ _; grind)
      exact Rat.le_trans z h2
  refine ⟨r, fun w => ?_, fr, lr, nr⟩
  have k1 := r64 d1
  have k2 := r64 e1
  clear hx hy h d2 e2 i1 i2 hr fr lr nr h1 h2 t eT d1 e1 hrep
  go_enter Try.func11, Try.ntmps11
  go_wp2
  go_ret
  exact ⟨rfl, rfl⟩
theorem cent : Fl .f64 4576918229304087675 ∧ 1 / 101 ≤ Num.fv .f64 4576918229304087675 ∧ Num.fv .f64 4576918229304087675 ≤ 1 := by
  refine ⟨?_, ?_, ?_⟩
  · show (4576918229304087675 : Nat) % FloatKind.f64.format.signWeight < FloatKind.f64.format.infRung
    decide +kernel
  · unfold Num.fv val rv p2
    decide +kernel
  · unfold Num.fv val rv p2
    decide +kernel
/-- A gap of at most a 128th is not more than a hundredth. -/
theorem gap_cent {x y : Nat} (hx : Fl .f64 x) (hy : Fl .f64 y) (h : InR (Num.fv .f64 x - Num.fv .f64 y) (1 / 128)) : ∃ g, (∀ w : World, Calls Try.prog 11 #[.float .f64 x, .float .f64 y] w fun e w' => e = .returned (.float .f64 g) ∧ w' = w) ∧ (FloatKind.f64.format.order g 4576918229304087675 == some .gt) = false := by
  obtain ⟨g, g1, g2, g3, _⟩ := gap_rep hx hy h (by decide +kernel) 1 7 (by decide) (by decide) (by decide +kernel)
  refine ⟨g, g1, (le_cmp g2 cent.1 ?_).2⟩
  have := cent.2.1
  grind
/-- The length of a line and the steps times the step. -/
theorem steps_law {L st m : Nat} {q : Nat} (fL : Fl .f32 L) (gs : Gn 2 (q : Int) st) (hq : q ≤ 8) (hm : m ≤ 16) (h : InR (Num.fv .f32 L - (m : Rat) * Num.fv .f32 st) (1 / 200)) :
    ∃ X s t g, qwide L = some X ∧ qwide st = some s ∧ floatBits .mul .f64 (floatOfInt .f64 (m : Int)) s = some t ∧ (∀ w : World, Calls Try.prog 11 #[.float .f64 X, .float .f64 t] w fun e w' => e = .returned (.float .f64 g) ∧ w' = w) ∧ (FloatKind.f64.format.order g 4576918229304087675 == some .gt) = false := by
  obtain ⟨X, x1, x2, _, x4⟩ := fwide fL
  obtain ⟨s, s1, s2, _, s4⟩ := fwide gs.fin
  obtain ⟨i1, i2, i3⟩ := fint .f64 (m : Int) (by omega)
  have ev := gs.val
  have hv : Num.fv .f64 (floatOfInt .f64 (m : Int)) * Num.fv .f64 s = ((m * q : Nat) : Int) / ((2 ^ 2 : Nat) : Rat) := by
    rw [i2, s4, ev, Rat.div_def, Rat.div_def, ← Rat.mul_assoc]
    congr 1
    rw [show ((m * q : Nat) : Int) = (m : Int) * (q : Int) by simp, Rat.intCast_mul]
  have hmq : m * q ≤ 128 := by have := Nat.mul_le_mul hm hq; omega
  have hb : InR (Num.fv .f64 (floatOfInt .f64 (m : Int)) * Num.fv .f64 s) 1000000 := by
    rw [hv]
    have := frac_le (m := ((m * q : Nat) : Int)) 2 (B := 128) (by omega)
    exact in_le this (by decide +kernel)
  have tt := fl_tops hb
  obtain ⟨t, t1, t2⟩ := fmul i1 s2 tt.1 tt.2
  have vt := t2.num ((m * q : Nat) : Int) 2 hv (by omega) (by decide)
  have et : Num.fv .f64 t = (m : Rat) * Num.fv .f32 st := by rw [vt, i2, s4]; rfl
  obtain ⟨g, g1, g2⟩ := gap_cent x2 t2.fin (by rw [x4, et]; exact in_le h (by decide +kernel))
  exact ⟨X, s, t, g, x1, s1, t1, g1, g2⟩
/-- The lengths of a line and of one that is moved. -/
theorem moved_law {L M : Nat} (fL : Fl .f32 L) (fM : Fl .f32 M) (h : InR (Num.fv .f32 M - Num.fv .f32 L) (1 / 200)) : ∃ X Y g, qwide L = some X ∧ qwide M = some Y ∧ (∀ w : World, Calls Try.prog 11 #[.float .f64 Y, .float .f64 X] w fun e w' => e = .returned (.float .f64 g) ∧ w' = w) ∧ (FloatKind.f64.format.order g 4576918229304087675 == some .gt) = false := by
  obtain ⟨X, x1, x2, _, x4⟩ := fwide fL
  obtain ⟨Y, y1, y2, _, y4⟩ := fwide fM
  obtain ⟨g, g1, g2⟩ := gap_cent y2 x2 (by rw [x4, y4]; exact in_le h (by decide +kernel))
  exact ⟨X, Y, g, x1, y1, g1, g2⟩
theorem two64 : Fl .f64 4611686018427387904 ∧ Num.fv .f64 4611686018427387904 = 2 := by
  refine ⟨?_, ?_⟩
  · show (4611686018427387904 : Nat) % FloatKind.f64.format.signWeight < FloatKind.f64.format.infRung
    decide +kernel
  · unfold Num.fv val rv p2
    decide +kernel
theorem four64 : Fl .f64 4616189618054758400 ∧ Num.fv .f64 4616189618054758400 = 4 := by
  refine ⟨?_, ?_⟩
  · show (4616189618054758400 : Nat) % FloatKind.f64.format.signWeight < FloatKind.f64.format.infRung
    decide +kernel
  · unfold Num.fv val rv p2
    decide +kernel
theorem one64 : Fl .f64 4607182418800017408 ∧ Num.fv .f64 4607182418800017408 = 1 := by
  refine ⟨?_, ?_⟩
  · show (4607182418800017408 : Nat) % FloatKind.f64.format.signWeight < FloatKind.f64.format.infRung
    decide +kernel
  · unfold Num.fv val rv p2
    decide +kernel
/-- A number times a few, in double precision. -/
theorem times_near {c x : Nat} {C : Rat} (fc : Fl .f64 c) (ec : Num.fv .f64 c = C) (fx : Fl .f64 x) (h : InR (C * Num.fv .f64 x) 16384) : ∃ t, floatBits .mul .f64 c x = some t ∧ Fl .f64 t ∧ InR (Num.fv .f64 t - C * Num.fv .f64 x) (1 / 1000000) := by
  have tt := fl_tops (in_le h (by decide +kernel))
  obtain ⟨t, t1, t2⟩ := fmul fc fx (by rw [ec]; exact tt.1) (by rw [ec]; exact tt.2)
  rw [ec] at t2
  have p14 : p2 14 = 16384 := by decide +kernel
  have pm : p2 (14 - 53) ≤ 1 / 1000000 := by decide +kernel
  have n := t2.near64 14 (by decide) (by decide) (by rw [p14]; exact h.1) (by rw [p14]; exact h.2)
  refine ⟨t, t1, t2.fin, ?_⟩
  have n1 := n.1
  have n2 := n.2
  generalize p2 (14 - 53) = e at *
  unfold InR
  constructor <;> grind
theorem doubled_law {L M : Nat} (fL : Fl .f32 L) (fM : Fl .f32 M) (hL : InR (Num.fv .f32 L) 100) (h : InR (Num.fv .f32 M - 2 * Num.fv .f32 L) (1 / 200)) : ∃ X Y t g, qwide L = some X ∧ qwide M = some Y ∧ floatBits .mul .f64 4611686018427387904 X = some t ∧ (∀ w : World, Calls Try.prog 11 #[.float .f64 Y, .float .f64 t] w fun e w' => e = .returned (.float .f64 g) ∧ w' = w) ∧ (FloatKind.f64.format.order g 4576918229304087675 == some .gt) = false := by
  obtain ⟨X, x1, x2, _, x4⟩ := fwide fL
  obtain ⟨Y, y1, y2, _, y4⟩ := fwide fM
  obtain ⟨t, t1, t2, t3⟩ := times_near two64.1 two64.2 x2 (by rw [x4]; obtain ⟨u1, u2⟩ := hL; unfold InR; constructor <;> grind)
  rw [x4] at t3
  obtain ⟨g, g1, g2⟩ := gap_cent y2 t2 (by rw [y4]; obtain ⟨u1, u2⟩ := h; obtain ⟨u3, u4⟩ := t3; unfold InR; constructor <;> grind)
  exact ⟨X, Y, t, g, x1, y1, t1, g1, g2⟩
/-- The areas of a line and of one that is turned and doubled. -/
theorem areas_law {c d : Nat} (fc : Fl .f32 c) (fd : Fl .f32 d) (h : InR (4 * Num.fv .f32 c - Num.fv .f32 d) (1 / 64)) (hd : InR (Num.fv .f32 d) 4096) (hc : InR (Num.fv .f32 c) 4096) : ∃ C D t g1 g2 o p z, qwide c = some C ∧ qwide d = some D ∧ floatBits .mul .f64 4616189618054758400 C = some t ∧ (∀ w : World, Calls Try.prog 11 #[.float .f64 t, .float .f64 D] w fun e w' => e = .returned (.float .f64 g1) ∧ w' = w) ∧
    (∀ w : World, Calls Try.prog 11 #[.float .f64 D, .float .f64 0] w fun e w' => e = .returned (.float .f64 g2) ∧ w' = w) ∧ floatBits .add .f64 4607182418800017408 g2 = some o ∧ floatBits .mul .f64 4576918229304087675 o = some p ∧ floatBits .add .f64 p 4576918229304087675 = some z ∧ (FloatKind.f64.format.order g1 z == some .gt) = false := by
  obtain ⟨C, x1, x2, _, x4⟩ := fwide fc
  obtain ⟨D, y1, y2, _, y4⟩ := fwide fd
  obtain ⟨t, t1, t2, t3⟩ := times_near four64.1 four64.2 x2 (by rw [x4]; obtain ⟨u1, u2⟩ := hc; unfold InR; constructor <;> grind)
  rw [x4] at t3
  obtain ⟨g1, k1, k2, k3, k4⟩ := gap_rep t2 y2 (B := 9 / 512) (by rw [y4]; obtain ⟨u1, u2⟩ := h; obtain ⟨u3, u4⟩ := t3; unfold InR; constructor <;> grind) (by decide +kernel) 9 9 (by decide) (by decide) (by decide +kernel)
  have z0 : Fl .f64 0 ∧ Num.fv .f64 0 = 0 := by
    refine ⟨?_, ?_⟩
    · show (0 : Nat) % FloatKind.f64.format.signWeight < FloatKind.f64.format.infRung
      decide +kernel
    · unfold Num.fv val rv p2
      decide +kernel
  obtain ⟨g2, j1, j2, j3, j4⟩ := gap_rep y2 z0.1 (B := 4096) (by rw [y4, z0.2]; obtain ⟨u1, u2⟩ := hd; unfold InR; constructor <;> grind) (by decide +kernel) 4096 0 (by decide) (by decide) (by decide +kernel)
  obtain ⟨o, o1, o2⟩ := fadd one64.1 j2 (by rw [one64.2]; exact (fl_tops (x := 1 + Num.fv .f64 g2) ⟨by grind, by grind⟩).1) (by rw [one64.2]; exact (fl_tops (x := 1 + Num.fv .f64 g2) ⟨by grind, by grind⟩).2)
  rw [one64.2] at o2
  have oge := o2.ge_int 1 (by decide) (by show (1 : Rat) ≤ _; grind)
  have ole := o2.le_int 5000 (by decide) (by show _ ≤ (5000 : Rat); grind)
  have oge : (1 : Rat) ≤ Num.fv .f64 o := oge
  have ole : Num.fv .f64 o ≤ (5000 : Rat) := ole
  have c1' := cent.2.1
  have c2' := cent.2.2
  have m1 := Rat.mul_le_mul_of_nonneg_left oge (show (0 : Rat) ≤ Num.fv .f64 4576918229304087675 by grind)
  have m2 := Rat.mul_le_mul_of_nonneg_right c2' (show (0 : Rat) ≤ Num.fv .f64 o by grind)
  obtain ⟨p, p1, p2'⟩ := fmul cent.1 o2.fin (fl_tops (x := Num.fv .f64 4576918229304087675 * Num.fv .f64 o) ⟨by grind, by grind⟩).1 (fl_tops (x := Num.fv .f64 4576918229304087675 * Num.fv .f64 o) ⟨by grind, by grind⟩).2
  have pge := p2'.ge _ (rep_val _ cent.1) (show Num.fv .f64 4576918229304087675 ≤ Num.fv .f64 4576918229304087675 * Num.fv .f64 o by grind)
  have pge : Num.fv .f64 4576918229304087675 ≤ Num.fv .f64 p := pge
  have ple := p2'.le_int 5000 (by decide) (by show _ ≤ (5000 : Rat); grind)
  have ple : Num.fv .f64 p ≤ (5000 : Rat) := ple
  obtain ⟨z, q1, q2⟩ := fadd p2'.fin cent.1 (fl_tops (x := Num.fv .f64 p + Num.fv .f64 4576918229304087675) ⟨by grind, by grind⟩).1 (fl_tops (x := Num.fv .f64 p + Num.fv .f64 4576918229304087675) ⟨by grind, by grind⟩).2
  have hrep := rep_frac .f64 9 9 (by decide) (by decide)
  have ev : ((9 : Int) : Rat) / ((2 ^ 9 : Nat) : Rat) = 9 / 512 := by decide +kernel
  rw [ev] at hrep
  have zge := q2.ge _ hrep (by grind)
  have zge : 9 / 512 ≤ Num.fv .f64 z := zge
  exact ⟨C, D, t, g1, g2, o, p, z, x1, y1, t1, k1, j1, o1, p1, q1, (le_cmp k2 q2.fin (by grind)).2⟩
end Go.Proofs.Ytkldgcgijkfpaaa
