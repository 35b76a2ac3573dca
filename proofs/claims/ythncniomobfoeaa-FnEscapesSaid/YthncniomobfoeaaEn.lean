/- Walk: numbers in the heart never go out, in 40 steps. Conditions: a number of eighths. -/
import Derived.Test.YthncniomobfoeaaEm
namespace Go.Proofs.Ythncniomobfoeaa
open Go.RowKit
open Num Quick Circ
attribute [local go_sem] run_store_fl run_store_cx

set_option maxRecDepth 100000 in
set_option maxHeartbeats 1000000 in
theorem EscapeOf_gen (k m n : Nat) (c z o : Nat × Nat) (w : World) (hk : k ≤ 3) (hc : Cb ((2 : Nat) : Rat) c) (hz : Cb ((110 : Nat) : Rat) z) (hm : m ≤ 128)
    (hE : ∀ w : World, Calls Try.prog 29 #[mapV k c, .complex .f32 z.1 z.2, .int .i64 (m : Int)] w fun e w' => e = .returned (.tuple #[.int .i64 (n : Int), .complex .f32 o.1 o.2]) ∧ Below w.heap.size w w') :
    Calls Try.prog 8 #[mapV k c, .complex .f32 z.1 z.2, .int .i64 (m : Int)] w fun e w' => e = .returned (.tuple #[.int .i64 (n : Int), .bool true]) ∧ Below w.heap.size w w' := by
  have C1 := Lib.hid (fun w => areEscape_ok k m c z w hk hc hz hm)
  have C2 := Lib.hid hE
  obtain ⟨v, ev⟩ : ∃ v, v = w.alloc (.cells #[.int .i64 (k : Int), .complex .f32 c.1 c.2] 28) := ⟨_, rfl⟩
  have B0 : Hid (Blk v w.heap.size 28 #[.int .i64 (k : Int), .complex .f32 c.1 c.2]) := by rw [ev]; exact Lib.hid (Blk.new _ _ _)
  have e0 : v.cell? ⟨w.heap.size, 0, none⟩ = some (.int .i64 (k : Int)) := B0.out.cell 0
  have e1 : v.cell? ⟨w.heap.size, 1, none⟩ = some (.complex .f32 c.1 c.2) := B0.out.cell 1
  have V0 : Hid (Below w.heap.size w v) := by rw [ev]; exact Lib.hid (below_new _ _)
  have EV := Lib.hid ev
  rw [ev] at e0 e1
  obtain ⟨p, q⟩ := c
  unfold mapV at C1 C2 ⊢
  clear hc hz ev hE
  go_enter Try.func8, Try.ntmps8
  go_wp2_with fail
  rw [← EV.out]
  refine (C1.out _).mono ?_
  rintro e w1 ⟨rfl, hb1⟩
  have V1 := Lib.hid (V0.out.trans (hb1.mono V0.out.size))
  have B1 := Lib.hid (B0.out.below hb1 B0.out.lt)
  clear hb1 V0 EV e0 e1 B0
  have e0 := B1.out.cell 0
  have e1 := B1.out.cell 1
  go_wp2_with fail
  refine (C2.out _).mono ?_
  rintro e w2 ⟨rfl, hb2⟩
  have V2 := Lib.hid (V1.out.trans (hb2.mono V1.out.size))
  clear hb2 V1 B1 e0 e1
  go_wp2
  go_ret2
  exact ⟨rfl, V2.out⟩
theorem cb0 : Cb ((110 : Nat) : Rat) (0, 0) := by
  refine ⟨c0.1, c0.1, ?_, ?_⟩
  · show InR (Num.fv .f32 0) _
    rw [c0.2]
    constructor <;> decide +kernel
  · show InR (Num.fv .f32 0) _
    rw [c0.2]
    constructor <;> decide +kernel
theorem heart_law {x y : Int} (hx : x.natAbs ≤ 16) (hy : y.natAbs ≤ 16) (hc : Cb ((2 : Nat) : Rat) (ew x, ew y)) : ∃ b : Bool, (∀ w : World, Calls Try.prog 17 #[.complex .f32 (ew x) (ew y)] w fun e w' => e = .returned (.bool b) ∧ w' = w) ∧
    (b = true → ∀ w : World, Calls Try.prog 8 #[mapV 0 (ew x, ew y), .complex .f32 0 0, .int .i64 40] w fun e w' => e = .returned (.tuple #[.int .i64 40, .bool true]) ∧ Below w.heap.size w w') := by
  have h := heart_ok hx hy
  generalize ew x = p at *
  generalize ew y = q at *
  unfold heartOk at h
  cases e : heartC p q with
  | none => rw [e] at h; cases h
  | some b =>
    refine ⟨b, fun w => InHeart_calls e hc w, fun hb w => ?_⟩
    subst hb
    rw [e] at h
    simp only at h
    have key := inC_ok 40 (0, 0) h
    have he : esc (fun _ => false) 40 0 = 40 := esc_at (fun _ _ => rfl) (Nat.le_refl _) (fun h => absurd h (by omega))
    refine EscapeOf_gen 0 40 40 (p, q) (0, 0) (seqC p q (0, 0) 40) w (by omega) hc cb0 (by omega) (fun w => ?_)
    have := escape_gen 0 40 (p, q) (seqC p q (0, 0)) (fun _ => false) w (by omega) (fun i hi w => (key i hi).1 w) (fun i hi _ w => (key i hi).2 w)
    rw [he] at this
    exact this
end Go.Proofs.Ythncniomobfoeaa
