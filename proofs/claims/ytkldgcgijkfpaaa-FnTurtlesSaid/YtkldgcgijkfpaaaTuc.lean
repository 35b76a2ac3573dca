/- Plain law and walk: the numbers of turns that letters lead to, step by step, and the phasors there. Conditions: at most sixteen letters, turns of twelfths. -/
import Derived.Test.YtkldgcgijkfpaaaTub
namespace Go.Proofs.Ytkldgcgijkfpaaa
open Go.RowKit
open Num Quick
namespace Trn

def tab (k : Nat) : List E := if k = 0 then tab0 else if k = 1 then tab1 else if k = 2 then tab2 else if k = 3 then tab3 else if k = 4 then tab4 else if k = 5 then tab5 else if k = 6 then tab6 else if k = 7 then tab7 else if k = 8 then tab8 else if k = 9 then tab9 else if k = 10 then tab10 else tab11
theorem tab_ok {k : Nat} (h : k < 12) : tabOk k (tab k) = true := by
  rcases (by omega : k = 0 ∨ k = 1 ∨ k = 2 ∨ k = 3 ∨ k = 4 ∨ k = 5 ∨ k = 6 ∨ k = 7 ∨ k = 8 ∨ k = 9 ∨ k = 10 ∨ k = 11) with rfl | rfl | rfl | rfl | rfl | rfl | rfl | rfl | rfl | rfl | rfl | rfl
  · exact tab0_ok
  · exact tab1_ok
  · exact tab2_ok
  · exact tab3_ok
  · exact tab4_ok
  · exact tab5_ok
  · exact tab6_ok
  · exact tab7_ok
  · exact tab8_ok
  · exact tab9_ok
  · exact tab10_ok
  · exact tab11_ok
/-- A number of turns that at most j letters lead to. -/
def At (k j x : Nat) : Prop := ∃ e ∈ tab k, e.1 = x ∧ e.2.1 ≤ j
theorem At.mono {k i j x : Nat} (h : At k i x) (hij : i ≤ j) : At k j x := by
  obtain ⟨e, h1, h2, h3⟩ := h
  exact ⟨e, h1, h2, Nat.le_trans h3 hij⟩
/-- One over the unit's power, nearly. -/
abbrev un : Rat := 1 / 4194304
structure Unit (a b : Nat) : Prop where
  f1 : Fl .f32 a
  f2 : Fl .f32 b
  up : Num.fv .f32 a * Num.fv .f32 a + Num.fv .f32 b * Num.fv .f32 b ≤ 1 + un
  lo : 1 - un ≤ Num.fv .f32 a * Num.fv .f32 a + Num.fv .f32 b * Num.fv .f32 b
theorem unit_of {a b : Nat} (h : nearOne a b = true) : Unit a b := by
  unfold nearOne at h
  simp only [Bool.and_eq_true, decide_eq_true_eq] at h
  obtain ⟨⟨⟨h1, h2⟩, h3⟩, h4⟩ := h
  exact ⟨h1, h2, h3, h4⟩
theorem ph_of {x : Nat} (h : phOk x = true) : ∃ a b, phW x = some (a, b) ∧ Unit a b := by
  unfold phOk at h
  split at h
  · cases h
  · rename_i a b e
    exact ⟨a, b, e, unit_of h⟩
theorem tab_all {k : Nat} (h : k < 12) : Quick.qbits .quo .f32 (floatOfInt .f32 (k : Int)) 1094713344 = some (turnW k) ∧ Fl .f32 (turnW k) ∧ phOk (turnW k) = true ∧ ((tab k).getD 0 (1, 1, 1, 1)).1 = 0 ∧ ((tab k).getD 0 (1, 1, 1, 1)).2.1 = 0 ∧ ∀ e ∈ tab k, entOk (turnW k) (tab k) e = true := by
  have t := tab_ok h
  unfold tabOk at t
  simp only [Bool.and_eq_true, decide_eq_true_eq, List.all_eq_true] at t
  obtain ⟨⟨⟨⟨t1, t2⟩, t3⟩, t4, t5⟩, t6⟩ := t
  exact ⟨t1, t2, t3, t4, t5, fun e he => t6 e he⟩
theorem At.zero {k : Nat} (h : k < 12) : At k 0 0 := by
  obtain ⟨_, _, _, h1, h2, _⟩ := tab_all h
  cases e : tab k with
  | nil => rw [e] at h1; cases h1
  | cons a l =>
    rw [e] at h1 h2
    exact ⟨a, by rw [e]; exact List.mem_cons_self, h1, Nat.le_of_eq h2⟩
theorem At.ent {k j x : Nat} (hk : k < 12) (h : At k j x) : ∃ e, e.1 = x ∧ e.2.1 ≤ j ∧ entOk (turnW k) (tab k) e = true := by
  obtain ⟨e, h1, h2, h3⟩ := h
  exact ⟨e, h2, h3, (tab_all hk).2.2.2.2.2 e h1⟩
theorem At.fin {k j x : Nat} (hk : k < 12) (h : At k j x) : Fl .f32 x := by
  obtain ⟨e, rfl, _, h⟩ := h.ent hk
  unfold entOk at h
  simp only [Bool.and_eq_true, decide_eq_true_eq] at h
  exact h.1.2
theorem At.ph {k j x : Nat} (hk : k < 12) (h : At k j x) : ∃ a b, phW x = some (a, b) ∧ Unit a b := by
  obtain ⟨e, rfl, _, h⟩ := h.ent hk
  unfold entOk at h
  simp only [Bool.and_eq_true, decide_eq_true_eq] at h
  exact ph_of h.1.1
theorem getD_mem {L : List E} {i : Nat} (h : i < L.length) (d : E) : L.getD i d ∈ L := by
  rw [List.getD_eq_getElem?_getD, List.getElem?_eq_getElem h]
  exact List.getElem_mem h
theorem At.step {k j x : Nat} (hk : k < 12) (h : At k j x) (hj : j < 16) : (∃ y, floatBits .add .f32 x (turnW k) = some y ∧ At k (j + 1) y) ∧ ∃ y, floatBits .sub .f32 x (turnW k) = some y ∧ At k (j + 1) y := by
  obtain ⟨e, rfl, hl, h⟩ := h.ent hk
  unfold entOk at h
  simp only [Bool.and_eq_true, Bool.or_eq_true, decide_eq_true_eq] at h
  obtain ⟨_, h | ⟨⟨⟨⟨⟨a1, a2⟩, a3⟩, b1⟩, b2⟩, b3⟩⟩ := h
  · omega
  · rw [qbits_eq] at a1 b1
    exact ⟨⟨_, a1, _, getD_mem a2 _, rfl, by omega⟩, ⟨_, b1, _, getD_mem b2 _, rfl, by omega⟩⟩
end Trn
/-- The phasor of a number of turns, as the program gives it. -/
theorem phasor_turn {x a b : Nat} (h : Trn.phW x = some (a, b)) : ∃ y, qwide x = some y ∧ ∀ w : World, Calls Try.prog 44 #[.float .f64 y] w fun e w' => e = .returned (.complex .f32 a b) ∧ w' = w := by
  unfold Trn.phW at h
  cases e : qwide x with
  | none => rw [e] at h; cases h
  | some y =>
    rw [e] at h
    simp only [Option.bind_some] at h
    refine ⟨y, rfl, fun w => ?_⟩
    split at h
    · rename_i c
      simp only [Bool.and_eq_true, decide_eq_true_eq] at c
      cases e2 : Circ.fraction y with
      | none => rw [e2] at h; cases h
      | some f =>
        rw [e2] at h
        exact phasor_calls w c.1 c.2 e2 (by simpa using h)
    · cases h
end Go.Proofs.Ytkldgcgijkfpaaa
