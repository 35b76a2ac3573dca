/- Facts for the law on escapes: a row's numbers, the steps of an orbit. Conditions: bounded numbers. -/
import Derived.Test.YthncniomobfoeaaEw
import Derived.Test.YthncniomobfoeaaEl
import Derived.Test.YthncniomobfoeaaEt
import Derived.Test.YthncniomobfoeaaEi
import Derived.Test.YthncniomobfoeaaHk
namespace Go.Proofs.Ythncniomobfoeaa
open Go.RowKit
open Num Quick Circ

theorem held_cx {fs : List Fact} {w : World} (h : Held fs w) (i : Nat) {B g n : Nat} {f : Nat → Nat × Nat} (hi : fs[i]? = some (.rd B 1 (some ⟨g, 0, none⟩) n ((List.range n).map (fun i => cxv (f i))))) {k : Nat} (hk : k < n) : w.cell? ⟨g, k, none⟩ = some (.complex .f32 (f k).1 (f k).2) := by
  obtain ⟨b, off, e, _, hc⟩ := (h.rd i hi).2 (by omega)
  injection e with e
  injection e with e1 e2
  subst e1 e2
  have := hc k _ (range_map_get (fun i => cxv (f i)) hk)
  simpa [cxv] using this
theorem out_le {z : Nat × Nat} (h : Cb ((110 : Nat) : Rat) z) : (FloatKind.f32.format.order (pw z) 1082130432 == some .lt || FloatKind.f32.format.order (pw z) 1082130432 == some .eq) = !out z := by
  have hf := (pw_ok h).2.fin
  unfold out
  by_cases c : 4 < Num.fv .f32 (pw z)
  · rw [decide_eq_true c]
    exact not_le_cmp hf c4f.1 (by rw [c4f.2]; exact c)
  · rw [decide_eq_false c]
    exact (le_cmp hf c4f.1 (by rw [c4f.2]; exact Rat.not_lt.1 c)).1
theorem orb_map {kd : Nat} {c z : Nat × Nat} {i : Nat} (hk : kd ≤ 3) (hc : Cb ((2 : Nat) : Rat) c) (h1 : Cb ((110 : Nat) : Rat) (orb kd c z i)) (hw : W32 (orb kd c z i)) (ho : out (orb kd c z i) = false) (w : World) :
    Calls Try.prog 13 #[.agg #[.int .i64 (kd : Int), .complex .f32 c.1 c.2], .complex .f32 (orb kd c z i).1 (orb kd c z i).2] w fun e w' => e = .returned (.tuple #[.complex .f32 (orb kd c z (i + 1)).1 (orb kd c z (i + 1)).2, .bool true]) ∧ Below w.heap.size w w' := by
  have h := nxt_ok hk hc (in_of_out h1 ho) hw
  exact MapOnce_ok kd c (orb kd c z i) (orb kd c z (i + 1)) w hk hc h1 h.2.1 h.1
/-- A number that is not moved, nearly: the map once. -/
theorem stays_map {p q x y : Nat} (hc : Cb ((2 : Nat) : Rat) (p, q)) (h : Stays p q x y) : ∃ u v, (∀ w : World, Calls Try.prog 13 #[.agg #[.int .i64 0, .complex .f32 p q], .complex .f32 x y] w fun e w' => e = .returned (.tuple #[.complex .f32 u v, .bool true]) ∧ Below w.heap.size w w') ∧
    ∃ dx dy, (∀ w : World, (binOp .sub 25 (.complex .f32 u v) (.complex .f32 x y)).run Try.prog w = .ok (.complex .f32 dx dy) w) ∧ Short 4562254508917369340 dx dy := by
  obtain ⟨u, v, h1, h2, h3⟩ := h.once
  exact ⟨u, v, fun w => MapOnce_ok 0 (p, q) (x, y) (u, v) w (by omega) hc (stays_cb h.cb (by omega)) (stays_cb h2 (by omega)) h1, h3⟩
theorem led_map {p q z1 z2 x y : Nat} (hc : Cb ((2 : Nat) : Rat) (p, q)) (h : Led p q z1 z2 x y) : ∃ u v, (∀ w : World, Calls Try.prog 13 #[.agg #[.int .i64 0, .complex .f32 p q], .complex .f32 x y] w fun e w' => e = .returned (.tuple #[.complex .f32 u v, .bool true]) ∧ Below w.heap.size w w') ∧
    ∃ dx dy, (∀ w : World, (binOp .sub 25 (.complex .f32 u v) (.complex .f32 z1 z2)).run Try.prog w = .ok (.complex .f32 dx dy) w) ∧ Short 4576918229304087675 dx dy := by
  obtain ⟨u, v, h1, h2, h3⟩ := h.once
  exact ⟨u, v, fun w => MapOnce_ok 0 (p, q) (x, y) (u, v) w (by omega) hc (stays_cb h.cb (by omega)) h2 h1, h3⟩
theorem inv5 {p q : Nat} {z : Nat × Nat} (hc : Cb ((2 : Nat) : Rat) (p, q)) (hz : Cb ((2 : Nat) : Rat) z) (hq : Num.fv .f32 z.1 * Num.fv .f32 z.1 + Num.fv .f32 z.2 * Num.fv .f32 z.2 ≤ 81 / 10) :
    ∃ (iv : Nat → Nat × Nat) (sd : Nat), iv 0 = z ∧ sd ≠ 77 ∧ (∀ k, Led p q (iv k).1 (iv k).2 (iv (k + 1)).1 (iv (k + 1)).2) ∧
      (∀ w : World, Calls Try.prog 18 #[.complex .f32 p q, .complex .f32 z.1 z.2, .int .i64 5, .int .i64 77] w fun e w' => ∃ g c', e = .returned (.tuple #[.slice (some ⟨g, 0, none⟩) 5 c', .int .i64 (sd : Int), .bool true]) ∧ w'.ownsRow w.heap.size 25 1 (.slice (some ⟨g, 0, none⟩) 5 c') 5 ((List.range 5).map (fun i => cxv (iv (i + 1)))) ∧ Below w.heap.size w w') ∧
      (∀ w : World, Calls Try.prog 18 #[.complex .f32 p q, .complex .f32 z.1 z.2, .int .i64 0, .int .i64 77] w fun e w' => ∃ g c', e = .returned (.tuple #[.slice (some ⟨g, 0, none⟩) 0 c', .int .i64 77, .bool true]) ∧ Below w.heap.size w w') := by
  refine ⟨invs p q 77 z, sds 77 5, rfl, seed5, fun k => (invs_ok (s := 77) hc hz.1 hz.2.1 hq k).led, fun w => InverseWalk_ok p q 77 5 z w hc hz hq (by omega) (by omega), fun w => ?_⟩
  refine (InverseWalk_ok p q 77 0 z w hc hz hq (by omega) (by omega)).mono ?_
  rintro e w' ⟨g, c', rfl, _, hb⟩
  exact ⟨g, c', rfl, hb⟩
end Go.Proofs.Ythncniomobfoeaa
