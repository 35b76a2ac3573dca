/- Plain law: one move of a turtle, ways of moves. Conditions: steps of at most 2, places within 33. -/
import Derived.Test.YtkldgcgijkfpaaaTuc
import Derived.Test.YtkldgcgijkfpaaaEb
namespace Go.Proofs.Ytkldgcgijkfpaaa
open Go.RowKit
open Num Quick

abbrev e1 : Rat := 1 / 200000
abbrev un : Rat := 1 / 4194304
theorem p2_e2 : p2 2 = 4 := by decide +kernel
theorem p2_e6 : p2 6 = 64 := by decide +kernel
theorem p2_em22 : p2 (2 - 24) = 1 / 4194304 := by decide +kernel
theorem p2_em18 : p2 (6 - 24) = 1 / 262144 := by decide +kernel
/-- One move, as numbers: by the step times a unit, nearly. -/
structure Mv (s : Rat) (p p' : Nat × Nat) : Prop where
  f1 : Fl .f32 p'.1
  f2 : Fl .f32 p'.2
  ex : ∃ a c : Rat, a * a + c * c ≤ 1 + un ∧ 1 - un ≤ a * a + c * c ∧ InR (Num.fv .f32 p'.1 - Num.fv .f32 p.1 - s * a) e1 ∧ InR (Num.fv .f32 p'.2 - Num.fv .f32 p.2 - s * c) e1
theorem unit_le {a c : Rat} (h : a * a + c * c ≤ 1 + un) : Le2 a c (1 + un) := ⟨by decide +kernel, by
  have : (1 + un : Rat) ≤ (1 + un) * (1 + un) := by decide +kernel
  exact Rat.le_trans h this⟩
theorem unit_in {a c : Rat} (h : a * a + c * c ≤ 1 + un) : InR a (5 / 4) ∧ InR c (5 / 4) := by
  have L := (unit_le h).mono (show (1 + un : Rat) ≤ 5 / 4 by decide +kernel)
  exact ⟨L.fst, L.snd⟩
theorem fl_tops {x : Rat} (h : InR x 1000000) : x ≤ top ∧ -top ≤ x := by
  have t : (1000000 : Rat) ≤ top := by decide +kernel
  have h1 := h.1
  have h2 := h.2
  generalize top = T at *
  constructor <;> grind
/-- One part of a move. -/
theorem mv_part {a st x : Nat} {s : Rat} (fa : Fl .f32 a) (fs : Fl .f32 st) (fx : Fl .f32 x) (es : Num.fv .f32 st = s) (s0 : 0 ≤ s) (s2 : s ≤ 2) (ia : InR (Num.fv .f32 a) (5 / 4)) (ix : InR (Num.fv .f32 x) 33) :
    ∃ u y, floatBits .mul .f32 a st = some u ∧ floatBits .add .f32 x u = some y ∧ Fl .f32 y ∧ InR (Num.fv .f32 y - Num.fv .f32 x - s * Num.fv .f32 a) e1 := by
  obtain ⟨V, eV⟩ : ∃ V, Num.fv .f32 a = V := ⟨_, rfl⟩
  obtain ⟨X, eX⟩ : ∃ V, Num.fv .f32 x = V := ⟨_, rfl⟩
  rw [eV] at ia
  rw [eX] at ix
  have hp : InR (V * s) (5 / 2) := by
    have := prod_in ia (show InR s 2 from ⟨s2, by grind⟩) (by decide +kernel)
    rw [show (5 / 4 * 2 : Rat) = 5 / 2 by decide +kernel] at this
    exact this
  have hpt := fl_tops (in_le hp (by decide +kernel))
  obtain ⟨u, u1, u2⟩ := fmul fa fs (by rw [eV, es]; exact hpt.1) (by rw [eV, es]; exact hpt.2)
  rw [eV, es] at u2
  have n := u2.near32 2 (by decide) (by decide) (by rw [p2_e2]; have := hp.1; grind) (by rw [p2_e2]; have := hp.2; grind)
  rw [p2_em22] at n
  obtain ⟨U, eU⟩ : ∃ V, Num.fv .f32 u = V := ⟨_, rfl⟩
  rw [eU] at n
  have hU : InR (X + U) 37 := by
    have h1 := hp.1
    have h2 := hp.2
    have h3 := ix.1
    have h4 := ix.2
    have n1 := n.1
    have n2 := n.2
    unfold InR
    generalize V * s = W at *
    constructor <;> grind
  have hut := fl_tops (in_le hU (by decide +kernel))
  obtain ⟨y, y1, y2⟩ := fadd fx u2.fin (by rw [eX, eU]; exact hut.1) (by rw [eX, eU]; exact hut.2)
  rw [eX, eU] at y2
  have m := y2.near32 6 (by decide) (by decide) (by rw [p2_e6]; have := hU.1; grind) (by rw [p2_e6]; have := hU.2; grind)
  rw [p2_em18] at m
  refine ⟨u, y, u1, y1, y2.fin, ?_⟩
  rw [eV, eX]
  have n1 := n.1
  have n2 := n.2
  have m1 := m.1
  have m2 := m.2
  rw [show s * V = V * s by grind]
  generalize V * s = W at *
  generalize Num.fv .f32 y = Y at *
  clear hut hpt u2 y2
  unfold InR e1
  constructor <;> grind
theorem mv_ex {a c st : Nat} {s : Rat} {p : Nat × Nat} (hu : Trn.Unit a c) (fs : Fl .f32 st) (es : Num.fv .f32 st = s) (s0 : 0 ≤ s) (s2 : s ≤ 2) (f1 : Fl .f32 p.1) (f2 : Fl .f32 p.2) (i1 : InR (Num.fv .f32 p.1) 33) (i2 : InR (Num.fv .f32 p.2) 33) :
    ∃ u v p', floatBits .mul .f32 a st = some u ∧ floatBits .mul .f32 c st = some v ∧ floatBits .add .f32 p.1 u = some p'.1 ∧ floatBits .add .f32 p.2 v = some p'.2 ∧ Mv s p p' := by
  have hi := unit_in (show Num.fv .f32 a * Num.fv .f32 a + Num.fv .f32 c * Num.fv .f32 c ≤ 1 + un from hu.up)
  obtain ⟨u, x, u1, x1, fx, ex⟩ := mv_part hu.f1 fs f1 es s0 s2 hi.1 i1
  obtain ⟨v, y, v1, y1, fy, ey⟩ := mv_part hu.f2 fs f2 es s0 s2 hi.2 i2
  exact ⟨u, v, (x, y), u1, v1, x1, y1, ⟨fx, fy, _, _, hu.up, hu.lo, ex, ey⟩⟩
/-- How far a move leads. -/
abbrev Aa : Rat := 129 / 64
theorem Mv.up {s : Rat} {p p' : Nat × Nat} (h : Mv s p p') (s0 : 0 ≤ s) (s2 : s ≤ 2) : Le2 (Num.fv .f32 p'.1 - Num.fv .f32 p.1) (Num.fv .f32 p'.2 - Num.fv .f32 p.2) (s + 1 / 60000) := by
  obtain ⟨a, c, h1, h2, h3, h4⟩ := h.ex
  have L := ((unit_le h1).scale s0).add (Le2.small h3 h4)
  rw [show s * a + (Num.fv .f32 p'.1 - Num.fv .f32 p.1 - s * a) = Num.fv .f32 p'.1 - Num.fv .f32 p.1 by grind, show s * c + (Num.fv .f32 p'.2 - Num.fv .f32 p.2 - s * c) = Num.fv .f32 p'.2 - Num.fv .f32 p.2 by grind] at L
  refine L.mono ?_
  have m := Rat.mul_le_mul_of_nonneg_right s2 (show (0 : Rat) ≤ un by decide +kernel)
  have e : s * (1 + un) = s + s * un := by grind
  rw [e]
  generalize s * un = q at *
  unfold un at m
  unfold e1
  grind
theorem Mv.lo {s : Rat} {p p' : Nat × Nat} (h : Mv s p p') (s0 : 0 ≤ s) (s2 : s ≤ 2) {A : Rat} (hA : Le2 (Num.fv .f32 p'.1 - Num.fv .f32 p.1) (Num.fv .f32 p'.2 - Num.fv .f32 p.2) A) : s ≤ A + 1 / 60000 := by
  obtain ⟨a, c, h1, h2, h3, h4⟩ := h.ex
  have L := hA.add (Le2.small h3 h4).neg
  rw [show Num.fv .f32 p'.1 - Num.fv .f32 p.1 + -(Num.fv .f32 p'.1 - Num.fv .f32 p.1 - s * a) = s * a by grind, show Num.fv .f32 p'.2 - Num.fv .f32 p.2 + -(Num.fv .f32 p'.2 - Num.fv .f32 p.2 - s * c) = s * c by grind] at L
  have q := L.sq
  have hu : (1 - un) * (1 - un) ≤ a * a + c * c := Rat.le_trans (show (1 - un : Rat) * (1 - un) ≤ 1 - un by decide +kernel) h2
  have hs := Rat.mul_le_mul_of_nonneg_left hu (rsq_nn s)
  have k : s * (1 - un) ≤ A + 2 * e1 := by
    refine sq_le L.nn ?_
    grind
  have m := Rat.mul_le_mul_of_nonneg_right s2 (show (0 : Rat) ≤ un by decide +kernel)
  rw [show s * (1 - un) = s - s * un by grind] at k
  generalize s * un = q2 at *
  unfold un at m
  unfold e1 at k
  clear q hs hu L h1 h2 h3 h4
  grind
/-- A way of moves from 0 on. -/
structure Way (s : Rat) (P : Nat → Nat × Nat) (m : Nat) : Prop where
  zero : P 0 = (0, 0)
  mv : ∀ k, k < m → Mv s (P k) (P (k + 1))
theorem Way.far {s : Rat} {P : Nat → Nat × Nat} {m : Nat} (h : Way s P m) (s0 : 0 ≤ s) (s2 : s ≤ 2) : ∀ k, k ≤ m → Fl .f32 (P k).1 ∧ Fl .f32 (P k).2 ∧ Le2 (Num.fv .f32 (P k).1) (Num.fv .f32 (P k).2) (Aa * (k : Rat))
  | 0, _ => by
    rw [h.zero]
    refine ⟨c0.1, c0.1, ?_⟩
    rw [c0.2]
    exact ⟨by have : ((0 : Nat) : Rat) = 0 := rfl; rw [this]; decide +kernel, by have : ((0 : Nat) : Rat) = 0 := rfl; rw [this]; decide +kernel⟩
  | k + 1, hk => by
    obtain ⟨_, _, L⟩ := Way.far h s0 s2 k (by omega)
    have M := h.mv k (by omega)
    refine ⟨M.f1, M.f2, ?_⟩
    have U := L.add (M.up s0 s2)
    rw [show Num.fv .f32 (P k).1 + (Num.fv .f32 (P (k + 1)).1 - Num.fv .f32 (P k).1) = Num.fv .f32 (P (k + 1)).1 by grind, show Num.fv .f32 (P k).2 + (Num.fv .f32 (P (k + 1)).2 - Num.fv .f32 (P k).2) = Num.fv .f32 (P (k + 1)).2 by grind] at U
    refine U.mono ?_
    have e : ((k + 1 : Nat) : Rat) = (k : Rat) + 1 := by rw [Rat.natCast_add]; rfl
    rw [e]
    unfold Aa
    grind
theorem Way.cb {s : Rat} {P : Nat → Nat × Nat} {m : Nat} (h : Way s P m) (s0 : 0 ≤ s) (s2 : s ≤ 2) (hm : m ≤ 16) (k : Nat) (hk : k ≤ m) : Cb 33 (P k) := by
  obtain ⟨f1, f2, L⟩ := h.far s0 s2 k hk
  have L' := L.mono (B := 33) (by
    have : (k : Rat) ≤ ((16 : Nat) : Rat) := Rat.natCast_le_natCast.2 (by omega)
    have e : ((16 : Nat) : Rat) = 16 := rfl
    rw [e] at this
    unfold Aa
    grind)
  exact ⟨f1, f2, L'.fst, L'.snd⟩
end Go.Proofs.Ytkldgcgijkfpaaa
