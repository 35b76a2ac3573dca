/- Walk: a map of the plane once. Conditions: the map's number at most 2, the number at most 3 in its parts. -/
import Derived.Test.YtjmidicidgaapaaEb
namespace Go.Proofs.Ytjmidicidgaapaa
open Go.RowKit
open Num Quick
attribute [local go_sem] run_store_fl run_store_cx

def mapV (k : Nat) (c : Nat × Nat) : Value := .agg #[.int .i64 (k : Int), .complex .f32 c.1 c.2]
theorem size_cb {a : Nat} {B : Rat} (ha : Fl .f32 a) (hb : InR (Num.fv .f32 a) B) : ∃ r, (∀ w : World, Calls Try.prog 50 #[.float .f32 a] w fun e w' => e = .returned (.float .f32 r) ∧ w' = w) ∧ Fl .f32 r ∧ InR (Num.fv .f32 r) B := by
  obtain ⟨r, h1, h2, h3⟩ := size_num ha
  refine ⟨r, h1, h2, ?_⟩
  rw [h3]
  split
  · exact hb
  · unfold InR at *; constructor <;> grind
theorem conj_cb {B : Rat} {z : Nat × Nat} (hz : Cb B z) (hl : z.2 < 4294967296) : Cb B (z.1, ng32 z.2) := by
  obtain ⟨h1, h2, _⟩ := ng32_num hz.2.1 hl
  refine ⟨hz.1, h1, hz.2.2.1, ?_⟩
  show InR (Num.fv .f32 (ng32 z.2)) B
  rw [h2]
  have := hz.2.2.2
  unfold InR at *
  constructor <;> grind
theorem below_drewN'' {B : Nat} {a w : World} (h : Below B a w) (n : Nat) : Below B a (w.drewN n) := ⟨h.os, h.tape, h.output, h.size, h.block⟩
/-- Words of 32 bits. -/
def W32 (z : Nat × Nat) : Prop := z.1 < 4294967296 ∧ z.2 < 4294967296
set_option maxRecDepth 100000 in
set_option maxHeartbeats 2000000 in
theorem once_ex (k : Nat) (c z : Nat × Nat) (hk : k ≤ 3) (hc : Cb ((2 : Nat) : Rat) c) (hz : Cb ((3 : Nat) : Rat) z) (hw : W32 z) :
    ∃ z' : Nat × Nat, (∀ w : World, Calls Try.prog 25 #[mapV k c, .complex .f32 z.1 z.2] w fun e w' => e = .returned (.complex .f32 z'.1 z'.2) ∧ Below w.heap.size w w') ∧ Cb ((110 : Nat) : Rat) z' ∧ W32 z' := by
  obtain ⟨a, b⟩ := z
  obtain ⟨p, q⟩ := c
  have sq : ∀ v : Nat × Nat, Cb ((3 : Nat) : Rat) v → ∃ m z' : Nat × Nat, (∀ w : World, Calls Try.prog 44 #[.complex .f32 v.1 v.2, .complex .f32 v.1 v.2] w fun e w' => e = .returned (.complex .f32 m.1 m.2) ∧ w' = w) ∧
      (∀ w : World, Calls Try.prog 43 #[.complex .f32 m.1 m.2, .complex .f32 p q] w fun e w' => e = .returned (.complex .f32 z'.1 z'.2) ∧ w' = w) ∧ Cb ((110 : Nat) : Rat) z' ∧ W32 z' := fun v hv => by
    obtain ⟨m, m1, _, _, m4⟩ := mul_cb hv hv (by omega) (by omega)
    obtain ⟨z', a1, a2, a3, a4⟩ := add_cb m4 hc (by omega)
    exact ⟨m, z', m1, a1, a4.mono (Rat.natCast_le_natCast.2 (by omega)), a2.lt, a3.lt⟩
  have hb0 : ∀ (w : World) o, Below w.heap.size w (w.alloc o) := fun w o => (Below.refl _ _).alloc (Nat.le_refl _) _
  have H0 := Lib.hid hb0
  have k0 : ∀ (w : World) (k : Int), (w.alloc (.cells #[.int .i64 k, .complex .f32 p q] 28)).cell? ⟨w.heap.size, 0, none⟩ = some (.int .i64 k) := fun w k => (Blk.new w 28 #[.int .i64 k, .complex .f32 p q]).cell 0
  have k1 : ∀ (w : World) (k : Int), (w.alloc (.cells #[.int .i64 k, .complex .f32 p q] 28)).cell? ⟨w.heap.size, 1, none⟩ = some (.complex .f32 p q) := fun w k => (Blk.new w 28 #[.int .i64 k, .complex .f32 p q]).cell 1
  have K0 := Lib.hid k0
  have K1 := Lib.hid k1
  clear hb0 k0 k1
  unfold mapV
  rcases (by omega : k = 0 ∨ k = 1 ∨ k = 2 ∨ k = 3) with rfl | rfl | rfl | rfl
  · obtain ⟨⟨m1, m2⟩, ⟨z1, z2⟩, M, A, B, L⟩ := sq (a, b) hz
    have M := Lib.hid M
    have A := Lib.hid A
    refine ⟨(z1, z2), fun w => ?_, B, L⟩
    have e0 := K0.out w 0
    have e1 := K1.out w 0
    clear sq hz hw hc K0 K1 B L
    show Calls Try.prog 25 #[.agg #[.int .i64 0, .complex .f32 p q], .complex .f32 a b] w _
    go_enter Try.func25, Try.ntmps25
    go_wp2
    go_quiet (first
      | (go_at_call 44; with_reducible exact Calls.quiet_of_same (M.out _))
      | (go_at_call 43; with_reducible exact Calls.quiet_of_same (A.out _)))
    go_wp2
    go_ret
    exact ⟨rfl, below_drewN'' (H0.out _ _) _⟩
  · obtain ⟨⟨m1, m2⟩, M, _, _, B1⟩ := mul_cb hz hz (by omega) (by omega)
    obtain ⟨⟨n1, n2⟩, M2, _, _, B2⟩ := mul_cb B1 hz (by omega) (by omega)
    obtain ⟨⟨z1, z2⟩, A, a2, a3, B3⟩ := add_cb B2 hc (by omega)
    have M := Lib.hid M
    have M2 := Lib.hid M2
    have A := Lib.hid A
    refine ⟨(z1, z2), fun w => ?_, B3.mono (Rat.natCast_le_natCast.2 (by omega)), a2.lt, a3.lt⟩
    have e0 := K0.out w 1
    have e1 := K1.out w 1
    clear sq hz hw hc K0 K1 B1 B2 B3 a2 a3
    show Calls Try.prog 25 #[.agg #[.int .i64 1, .complex .f32 p q], .complex .f32 a b] w _
    go_enter Try.func25, Try.ntmps25
    go_wp2
    go_quiet (first
      | (go_at_call 44; with_reducible exact Calls.quiet_of_same (M.out _))
      | (go_at_call 44; with_reducible exact Calls.quiet_of_same (M2.out _))
      | (go_at_call 43; with_reducible exact Calls.quiet_of_same (A.out _)))
    go_wp2
    go_ret
    exact ⟨rfl, below_drewN'' (H0.out _ _) _⟩
  · obtain ⟨s1, S1, s1f, s1b⟩ := size_cb hz.1 hz.2.2.1
    obtain ⟨s2, S2, s2f, s2b⟩ := size_cb hz.2.1 hz.2.2.2
    obtain ⟨⟨m1, m2⟩, ⟨z1, z2⟩, M, A, B, L⟩ := sq (s1, s2) ⟨s1f, s2f, s1b, s2b⟩
    have M := Lib.hid M
    have A := Lib.hid A
    have S1 := Lib.hid S1
    have S2 := Lib.hid S2
    refine ⟨(z1, z2), fun w => ?_, B, L⟩
    have e0 := K0.out w 2
    have e1 := K1.out w 2
    clear sq hz hw hc K0 K1 B L s1f s1b s2f s2b
    show Calls Try.prog 25 #[.agg #[.int .i64 2, .complex .f32 p q], .complex .f32 a b] w _
    go_enter Try.func25, Try.ntmps25
    go_wp2_with fail
    refine (S1.out _).mono ?_
    rintro e w1 ⟨rfl, hw1⟩
    obtain rfl := hw1.symm
    go_wp2_with fail
    refine (S2.out _).mono ?_
    rintro e w2 ⟨rfl, hw2⟩
    obtain rfl := hw2.symm
    go_wp2
    go_quiet (first
      | (go_at_call 44; with_reducible exact Calls.quiet_of_same (M.out _))
      | (go_at_call 43; with_reducible exact Calls.quiet_of_same (A.out _)))
    go_wp2
    go_ret
    exact ⟨rfl, below_drewN'' (H0.out _ _) _⟩
  · obtain ⟨⟨m1, m2⟩, ⟨z1, z2⟩, M, A, B, L⟩ := sq (a, ng32 b) (conj_cb hz hw.2)
    have M := Lib.hid M
    have A := Lib.hid A
    have CJ := Lib.hid (fun w => conj_w (w := w) a b)
    refine ⟨(z1, z2), fun w => ?_, B, L⟩
    have e0 := K0.out w 3
    have e1 := K1.out w 3
    clear sq hz hw hc K0 K1 B L
    show Calls Try.prog 25 #[.agg #[.int .i64 3, .complex .f32 p q], .complex .f32 a b] w _
    go_enter Try.func25, Try.ntmps25
    go_wp2_with fail
    refine (CJ.out _).mono ?_
    rintro e w1 ⟨rfl, hw1⟩
    obtain rfl := hw1.symm
    go_wp2
    go_quiet (first
      | (go_at_call 44; with_reducible exact Calls.quiet_of_same (M.out _))
      | (go_at_call 43; with_reducible exact Calls.quiet_of_same (A.out _)))
    go_wp2
    go_ret
    exact ⟨rfl, below_drewN'' (H0.out _ _) _⟩
end Go.Proofs.Ytjmidicidgaapaa
