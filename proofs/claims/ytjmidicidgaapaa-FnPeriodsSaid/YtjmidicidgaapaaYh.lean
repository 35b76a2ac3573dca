/- Walk: a map of the plane once, for numbers up to 1000; whether a number is small; how far apart two are. Conditions: finite numbers. -/
import Derived.Test.YtjmidicidgaapaaYf
import Derived.Test.YtjmidicidgaapaaEi
namespace Go.Proofs.Ytjmidicidgaapaa
open Go.RowKit
open Num Quick Circ
attribute [local go_sem] run_store_fl run_store_cx

/-- Finite numbers that are not too great. -/
structure Fb (z : Nat × Nat) : Prop where
  f1 : Fl .f32 z.1
  f2 : Fl .f32 z.2
  i1 : InR (Num.fv .f32 z.1) 8589934592
  i2 : InR (Num.fv .f32 z.2) 8589934592
open Classical in
noncomputable def smB (z : Nat × Nat) : Bool := decide (InR (Num.fv .f32 z.1) 1000) && decide (InR (Num.fv .f32 z.2) 1000)
open Classical in
theorem size_cmp {a : Nat} (fa : Fl .f32 a) : ∃ p, (∀ w : World, Calls Try.prog 50 #[.float .f32 a] w fun e w' => e = .returned (.float .f32 p) ∧ w' = w) ∧ (FloatKind.f32.format.order p 1148846080 == some .lt || FloatKind.f32.format.order p 1148846080 == some .eq) = decide (InR (Num.fv .f32 a) 1000) := by
  obtain ⟨p, p1, p2_, p3⟩ := size_num fa
  have c := c1000
  refine ⟨p, p1, ?_⟩
  by_cases h : InR (Num.fv .f32 a) 1000
  · rw [decide_eq_true h]
    exact (le_cmp p2_ c.1 (by rw [p3, c.2]; unfold InR at h; split <;> grind)).1
  · rw [decide_eq_false h]
    exact not_le_cmp p2_ c.1 (by
      rw [p3, c.2]
      apply Rat.not_le.1
      intro hle
      apply h
      unfold InR
      split at hle <;> constructor <;> grind)
open Classical in
theorem isSmall_any {z : Nat × Nat} (fa : Fl .f32 z.1) (fb : Fl .f32 z.2) (w : World) : Calls Try.prog 21 #[.complex .f32 z.1 z.2] w fun e w' => e = .returned (.bool (smB z)) ∧ w' = w := by
  obtain ⟨p, p1, k1⟩ := size_cmp fa
  obtain ⟨q, q1, k2⟩ := size_cmp fb
  unfold smB
  obtain ⟨a, b⟩ := z
  simp only at p1 q1 k1 k2 ⊢
  generalize decide (InR (Num.fv .f32 a) 1000) = u at *
  generalize decide (InR (Num.fv .f32 b) 1000) = v at *
  have P1 := Lib.hid p1
  have Q1 := Lib.hid q1
  clear p1 q1 fa fb
  go_enter Try.func21, Try.ntmps21
  go_wp2_with fail
  refine (P1.out _).mono ?_
  rintro e w1 ⟨rfl, hw1⟩
  obtain rfl := hw1.symm
  cases u with
  | false =>
    go_wp2
    try go_ret
    exact ⟨by simp, rfl⟩
  | true =>
    go_wp2_with fail
    refine (Q1.out _).mono ?_
    rintro e w1 ⟨rfl, hw1⟩
    obtain rfl := hw1.symm
    go_wp2
    try go_ret
    exact ⟨by simp [k2], rfl⟩
theorem rnd_p2 {x : Rat} {w : Nat} (h : Num.FR .f32 x w) (e : Int) (h1 : -149 ≤ e) (h2 : e ≤ 100) (hx : InR x (p2 e)) : InR (Num.fv .f32 w) (p2 e) := by
  obtain ⟨a, b⟩ := h.within e h1 h2 hx.1 hx.2
  exact ⟨a, b⟩
theorem p33 : p2 33 = 8589934592 := by decide +kernel
theorem p32 : p2 32 = 4294967296 := by decide +kernel
theorem mid_big : (8589934592 : Rat) * 2 ≤ mid := by decide +kernel
/-- A product of numbers of which one is at most 1000, and a number of at most 2 more. -/
theorem mulAdd_ex {x y c : Nat × Nat} {B : Nat} (hx0 : Cb ((B : Nat) : Rat) x) (hB : B ≤ 2000000) (hy : Cb ((1000 : Nat) : Rat) y) (hc : Cb ((2 : Nat) : Rat) c) :
    ∃ m z' : Nat × Nat, (∀ w : World, Calls Try.prog 44 #[.complex .f32 x.1 x.2, .complex .f32 y.1 y.2] w fun e w' => e = .returned (.complex .f32 m.1 m.2) ∧ w' = w) ∧
      (∀ w : World, Calls Try.prog 43 #[.complex .f32 m.1 m.2, .complex .f32 c.1 c.2] w fun e w' => e = .returned (.complex .f32 z'.1 z'.2) ∧ w' = w) ∧ Fb z' ∧ W32 z' := by
  obtain ⟨A, eA⟩ : ∃ A : Rat, ((B : Nat) : Rat) = A := ⟨_, rfl⟩
  have hx : Fl .f32 x.1 ∧ Fl .f32 x.2 ∧ InR (Num.fv .f32 x.1) A ∧ InR (Num.fv .f32 x.2) A := by rw [← eA]; exact hx0
  have hA : 0 ≤ A := by rw [← eA]; exact Rat.natCast_nonneg
  have hA3 : A ≤ 2000000 := by
    have := Rat.natCast_le_natCast.2 hB
    rw [eA] at this
    have e : ((2000000 : Nat) : Rat) = 2000000 := rfl
    rwa [e] at this
  have hA2 : A * 2000 ≤ 4294967296 := by grind
  have e1000 : ((1000 : Nat) : Rat) = 1000 := rfl
  have e2 : ((2 : Nat) : Rat) = 2 := rfl
  have mb := mid_big
  obtain ⟨M, eM⟩ : ∃ M : Rat, mid = M := ⟨_, rfl⟩
  have hy1 := hy.2.2.1
  have hy2 := hy.2.2.2
  have hc1 := hc.2.2.1
  have hc2 := hc.2.2.2
  rw [e1000] at hy1 hy2
  rw [e2] at hc1 hc2
  rw [eM] at mb
  obtain ⟨u, v, h1, h2, h3⟩ := mul_num hx.1 hx.2.1 hy.1 hy.2.1 (by rw [eM]; have := hx.2.2.1; unfold InR at *; grind) (by rw [eM]; have := hx.2.2.2; unfold InR at *; grind) (by rw [eM]; unfold InR at *; grind) (by rw [eM]; unfold InR at *; grind)
  have q1 := prod_in hx.2.2.1 hy1 hA
  have q2 := prod_in hx.2.2.2 hy2 hA
  have q3 := prod_in hx.2.2.1 hy2 hA
  have q4 := prod_in hx.2.2.2 hy1 hA
  have s1 := in_sub q1 q2
  have s2 := in_add q3 q4
  have b1 := rnd_p2 h2 32 (by decide) (by decide) (by rw [p32]; unfold InR at *; constructor <;> grind)
  have b2 := rnd_p2 h3 32 (by decide) (by decide) (by rw [p32]; unfold InR at *; constructor <;> grind)
  rw [p32] at b1 b2
  have t : (8589934592 : Rat) ≤ top := by decide +kernel
  obtain ⟨T, eT⟩ : ∃ T : Rat, top = T := ⟨_, rfl⟩
  rw [eT] at t
  obtain ⟨p, q, a1, a2, a3⟩ := add_num h2.fin h3.fin hc.1 hc.2.1 (by rw [eT]; unfold InR at *; constructor <;> grind) (by rw [eT]; unfold InR at *; constructor <;> grind)
  have d1 := rnd_p2 a2 33 (by decide) (by decide) (by rw [p33]; unfold InR at *; constructor <;> grind)
  have d2 := rnd_p2 a3 33 (by decide) (by decide) (by rw [p33]; unfold InR at *; constructor <;> grind)
  rw [p33] at d1 d2
  exact ⟨(u, v), (p, q), h1, a1, ⟨a2.fin, a3.fin, d1, d2⟩, a2.lt, a3.lt⟩
set_option maxRecDepth 100000 in
set_option maxHeartbeats 2000000 in
theorem onceB_ex (k : Nat) (c z : Nat × Nat) (hk : k ≤ 3) (hc : Cb ((2 : Nat) : Rat) c) (hz : Cb ((1000 : Nat) : Rat) z) (hw : W32 z) :
    ∃ z' : Nat × Nat, (∀ w : World, Calls Try.prog 25 #[mapV k c, .complex .f32 z.1 z.2] w fun e w' => e = .returned (.complex .f32 z'.1 z'.2) ∧ Below w.heap.size w w') ∧ Fb z' ∧ W32 z' := by
  obtain ⟨a, b⟩ := z
  obtain ⟨p, q⟩ := c
  have sq : ∀ v : Nat × Nat, Cb ((1000 : Nat) : Rat) v → ∃ m z' : Nat × Nat, (∀ w : World, Calls Try.prog 44 #[.complex .f32 v.1 v.2, .complex .f32 v.1 v.2] w fun e w' => e = .returned (.complex .f32 m.1 m.2) ∧ w' = w) ∧
      (∀ w : World, Calls Try.prog 43 #[.complex .f32 m.1 m.2, .complex .f32 p q] w fun e w' => e = .returned (.complex .f32 z'.1 z'.2) ∧ w' = w) ∧ Fb z' ∧ W32 z' := fun v hv => by
    obtain ⟨m, z', h1, h2, h3, h4⟩ := mulAdd_ex (x := v) (y := v) (c := (p, q)) (B := 1000) hv (by omega) hv hc
    exact ⟨m, z', h1, h2, h3, h4⟩
  have hb0 : ∀ (w : World) o, Below w.heap.size w (w.alloc o) := fun w o => (Below.refl _ _).alloc (Nat.le_refl _) _
  have H0 := Lib.hid hb0
  have k0 : ∀ (w : World) (k : Int), (w.alloc (.cells #[.int .i64 k, .complex .f32 p q] 28)).cell? ⟨w.heap.size, 0, none⟩ = some (.int .i64 k) := fun w k => (Blk.new w 28 #[.int .i64 k, .complex .f32 p q]).cell 0
  have k1 : ∀ (w : World) (k : Int), (w.alloc (.cells #[.int .i64 k, .complex .f32 p q] 28)).cell? ⟨w.heap.size, 1, none⟩ = some (.complex .f32 p q) := fun w k => (Blk.new w 28 #[.int .i64 k, .complex .f32 p q]).cell 1
  have K0 := Lib.hid k0
  have K1 := Lib.hid k1
  clear hb0 k0 k1
  unfold mapV
  rcases (by omega : k = 0 ∨ k = 1 ∨ k = 2 ∨ k = 3) with rfl | rfl | rfl | rfl
  · obtain ⟨⟨m1, m2⟩, ⟨z1, z2⟩, M, A, B, L⟩ := sq (a, b) hz
    have M := Lib.hid M
    have A := Lib.hid A
    refine ⟨(z1, z2), fun w => ?_, B, L⟩
    have e0 := K0.out w 0
    have e1 := K1.out w 0
    clear sq hz hw hc K0 K1 B L
    show Calls Try.prog 25 #[.agg #[.int .i64 0, .complex .f32 p q], .complex .f32 a b] w _
    go_enter Try.func25, Try.ntmps25
    go_wp2
    go_quiet (first
      | (go_at_call 44; with_reducible exact Calls.quiet_of_same (M.out _))
      | (go_at_call 43; with_reducible exact Calls.quiet_of_same (A.out _)))
    go_wp2
    go_ret
    exact ⟨rfl, below_drewN'' (H0.out _ _) _⟩
  · obtain ⟨⟨m1, m2⟩, M, _, _, B1⟩ := mul_cb hz hz (by omega) (by omega)
    obtain ⟨⟨n1, n2⟩, ⟨z1, z2⟩, M2, A, B, L⟩ := mulAdd_ex (x := (m1, m2)) (y := (a, b)) (c := (p, q)) (B := 2 * (1000 * 1000)) B1 (by omega) hz hc
    have M := Lib.hid M
    have M2 := Lib.hid M2
    have A := Lib.hid A
    refine ⟨(z1, z2), fun w => ?_, B, L⟩
    have e0 := K0.out w 1
    have e1 := K1.out w 1
    clear sq hz hw hc K0 K1 B1 B L
    show Calls Try.prog 25 #[.agg #[.int .i64 1, .complex .f32 p q], .complex .f32 a b] w _
    go_enter Try.func25, Try.ntmps25
    go_wp2
    go_quiet (first
      | (go_at_call 44; with_reducible exact Calls.quiet_of_same (M.out _))
      | (go_at_call 44; with_reducible exact Calls.quiet_of_same (M2.out _))
      | (go_at_call 43; with_reducible exact Calls.quiet_of_same (A.out _)))
    go_wp2
    go_ret
    exact ⟨rfl, below_drewN'' (H0.out _ _) _⟩
  · obtain ⟨s1, S1, s1f, s1b⟩ := size_cb hz.1 hz.2.2.1
    obtain ⟨s2, S2, s2f, s2b⟩ := size_cb hz.2.1 hz.2.2.2
    obtain ⟨⟨m1, m2⟩, ⟨z1, z2⟩, M, A, B, L⟩ := sq (s1, s2) ⟨s1f, s2f, s1b, s2b⟩
    have M := Lib.hid M
    have A := Lib.hid A
    have S1 := Lib.hid S1
    have S2 := Lib.hid S2
    refine ⟨(z1, z2), fun w => ?_, B, L⟩
    have e0 := K0.out w 2
    have e1 := K1.out w 2
    clear sq hz hw hc K0 K1 B L s1f s1b s2f s2b
    show Calls Try.prog 25 #[.agg #[.int .i64 2, .complex .f32 p q], .complex .f32 a b] w _
    go_enter Try.func25, Try.ntmps25
    go_wp2_with fail
    refine (S1.out _).mono ?_
    rintro e w1 ⟨rfl, hw1⟩
    obtain rfl := hw1.symm
    go_wp2_with fail
    refine (S2.out _).mono ?_
    rintro e w2 ⟨rfl, hw2⟩
    obtain rfl := hw2.symm
    go_wp2
    go_quiet (first
      | (go_at_call 44; with_reducible exact Calls.quiet_of_same (M.out _))
      | (go_at_call 43; with_reducible exact Calls.quiet_of_same (A.out _)))
    go_wp2
    go_ret
    exact ⟨rfl, below_drewN'' (H0.out _ _) _⟩
  · obtain ⟨⟨m1, m2⟩, ⟨z1, z2⟩, M, A, B, L⟩ := sq (a, ng32 b) (conj_cb hz hw.2)
    have M := Lib.hid M
    have A := Lib.hid A
    have CJ := Lib.hid (fun w => conj_w (w := w) a b)
    refine ⟨(z1, z2), fun w => ?_, B, L⟩
    have e0 := K0.out w 3
    have e1 := K1.out w 3
    clear sq hz hw hc K0 K1 B L
    show Calls Try.prog 25 #[.agg #[.int .i64 3, .complex .f32 p q], .complex .f32 a b] w _
    go_enter Try.func25, Try.ntmps25
    go_wp2_with fail
    refine (CJ.out _).mono ?_
    rintro e w1 ⟨rfl, hw1⟩
    obtain rfl := hw1.symm
    go_wp2
    go_quiet (first
      | (go_at_call 44; with_reducible exact Calls.quiet_of_same (M.out _))
      | (go_at_call 43; with_reducible exact Calls.quiet_of_same (A.out _)))
    go_wp2
    go_ret
    exact ⟨rfl, below_drewN'' (H0.out _ _) _⟩
open Classical in
theorem smB_cb {z : Nat × Nat} (h : smB z = true) (f1 : Fl .f32 z.1) (f2 : Fl .f32 z.2) : Cb ((1000 : Nat) : Rat) z := by
  unfold smB at h
  obtain ⟨h1, h2⟩ := Bool.and_eq_true_iff.1 h
  have e : ((1000 : Nat) : Rat) = 1000 := rfl
  unfold Cb
  rw [e]
  exact ⟨f1, f2, of_decide_eq_true h1, of_decide_eq_true h2⟩
open Classical in
/-- The number after this one. -/
noncomputable def nxB (k : Nat) (c z : Nat × Nat) : Nat × Nat := if h : k ≤ 3 ∧ Cb ((2 : Nat) : Rat) c ∧ Cb ((1000 : Nat) : Rat) z ∧ W32 z then Classical.choose (onceB_ex k c z h.1 h.2.1 h.2.2.1 h.2.2.2) else (0, 0)
theorem nxB_ok {k : Nat} {c z : Nat × Nat} (hk : k ≤ 3) (hc : Cb ((2 : Nat) : Rat) c) (hz : Cb ((1000 : Nat) : Rat) z) (hw : W32 z) :
    (∀ w : World, Calls Try.prog 25 #[mapV k c, .complex .f32 z.1 z.2] w fun e w' => e = .returned (.complex .f32 (nxB k c z).1 (nxB k c z).2) ∧ Below w.heap.size w w') ∧ Fb (nxB k c z) ∧ W32 (nxB k c z) := by
  have h : k ≤ 3 ∧ Cb ((2 : Nat) : Rat) c ∧ Cb ((1000 : Nat) : Rat) z ∧ W32 z := ⟨hk, hc, hz, hw⟩
  have e : nxB k c z = Classical.choose (onceB_ex k c z h.1 h.2.1 h.2.2.1 h.2.2.2) := by unfold nxB; rw [dif_pos h]
  rw [e]
  exact Classical.choose_spec (onceB_ex k c z h.1 h.2.1 h.2.2.1 h.2.2.2)
/-- An orbit. -/
noncomputable def orbB (k : Nat) (c z : Nat × Nat) : Nat → Nat × Nat
  | 0 => z
  | i + 1 => nxB k c (orbB k c z i)
theorem orbB_ok {k : Nat} {c z : Nat × Nat} (hk : k ≤ 3) (hc : Cb ((2 : Nat) : Rat) c) (hz : Fb z) (hw : W32 z) : ∀ i, (∀ j, j < i → smB (orbB k c z j) = true) → Fb (orbB k c z i) ∧ W32 (orbB k c z i)
  | 0, _ => ⟨hz, hw⟩
  | i + 1, h => by
    obtain ⟨h1, h2⟩ := orbB_ok hk hc hz hw i (fun j hj => h j (by omega))
    exact (nxB_ok hk hc (smB_cb (h i (by omega)) h1.f1 h1.f2) h2).2
theorem orbB_step {k : Nat} {c z : Nat × Nat} (hk : k ≤ 3) (hc : Cb ((2 : Nat) : Rat) c) (hz : Fb z) (hw : W32 z) (i : Nat) (h : ∀ j, j < i + 1 → smB (orbB k c z j) = true) (w : World) :
    Calls Try.prog 25 #[mapV k c, .complex .f32 (orbB k c z i).1 (orbB k c z i).2] w fun e w' => e = .returned (.complex .f32 (orbB k c z (i + 1)).1 (orbB k c z (i + 1)).2) ∧ Below w.heap.size w w' := by
  obtain ⟨h1, h2⟩ := orbB_ok hk hc hz hw i (fun j hj => h j (by omega))
  exact (nxB_ok hk hc (smB_cb (h i (by omega)) h1.f1 h1.f2) h2).1 w
/-- How far apart two numbers are. -/
def Dist (x y : Nat × Nat) (r : Nat) : Prop := ∃ u v, floatBits .sub .f32 x.1 y.1 = some u ∧ floatBits .sub .f32 x.2 y.2 = some v ∧ (∀ w : World, Calls Try.prog 9 #[.complex .f32 u v] w fun e w' => e = .returned (.float .f32 r) ∧ w' = w) ∧ Fl .f32 r
theorem dist_ex {x y : Nat × Nat} (hx : Fb x) (hy : Fb y) : ∃ r, Dist x y r := by
  have t : (17179869184 : Rat) ≤ top := by decide +kernel
  have mb := mid_big
  obtain ⟨T, eT⟩ : ∃ T : Rat, top = T := ⟨_, rfl⟩
  obtain ⟨M, eM⟩ : ∃ M : Rat, mid = M := ⟨_, rfl⟩
  rw [eT] at t
  rw [eM] at mb
  obtain ⟨a1, a2, a3, a4⟩ := hx
  obtain ⟨b1, b2, b3, b4⟩ := hy
  obtain ⟨u, u1, u2⟩ := fsub a1 b1 (by rw [eT]; unfold InR at *; grind) (by rw [eT]; unfold InR at *; grind)
  obtain ⟨v, v1, v2⟩ := fsub a2 b2 (by rw [eT]; unfold InR at *; grind) (by rw [eT]; unfold InR at *; grind)
  have p34 : p2 34 = 17179869184 := by decide +kernel
  have d1 := rnd_p2 u2 34 (by decide) (by decide) (by rw [p34]; unfold InR at *; constructor <;> grind)
  have d2 := rnd_p2 v2 34 (by decide) (by decide) (by rw [p34]; unfold InR at *; constructor <;> grind)
  rw [p34] at d1 d2
  obtain ⟨r, r1, r2⟩ := long_num u2.fin v2.fin (by rw [eM]; unfold InR at *; constructor <;> grind) (by rw [eM]; unfold InR at *; constructor <;> grind)
  exact ⟨r, u, v, u1, v1, r1, r2.fin⟩
open Classical in
noncomputable def dB (x y : Nat × Nat) : Nat := if h : ∃ r, Dist x y r then Classical.choose h else 0
theorem dB_ok {x y : Nat × Nat} (hx : Fb x) (hy : Fb y) : Dist x y (dB x y) := by
  unfold dB
  rw [dif_pos (dist_ex hx hy)]
  exact Classical.choose_spec (dist_ex hx hy)
end Go.Proofs.Ytjmidicidgaapaa

namespace Go.Proofs.Ytjmidicidgaapaa
open Go.RowKit
open Num Quick Circ
attribute [local go_sem] run_store_fl run_store_cx

set_option maxRecDepth 100000 in
set_option maxHeartbeats 4000000 in
theorem orbit_gen (k m : Nat) (c z : Nat × Nat) (f : Nat → Nat × Nat) (w : World) (hk : k ≤ 3) (hc : Cb ((2 : Nat) : Rat) c) (hm1 : 1 ≤ m) (hm : m ≤ 128) (f0 : f 0 = z)
    (hs0 : ∀ w : World, Calls Try.prog 21 #[.complex .f32 (f 0).1 (f 0).2] w fun e w' => e = .returned (.bool true) ∧ w' = w)
    (hnx : ∀ i, i + 1 < m → ∀ w : World, Calls Try.prog 25 #[mapV k c, .complex .f32 (f i).1 (f i).2] w fun e w' => e = .returned (.complex .f32 (f (i + 1)).1 (f (i + 1)).2) ∧ Below w.heap.size w w')
    (hsm : ∀ i, i + 1 < m → ∀ w : World, Calls Try.prog 21 #[.complex .f32 (f i).1 (f i).2] w fun e w' => e = .returned (.bool true) ∧ w' = w)
    (hfi : ∀ w : World, Calls Try.prog 27 #[.complex .f32 (f (m - 1)).1 (f (m - 1)).2] w fun e w' => e = .returned (.bool true) ∧ w' = w) :
    Calls Try.prog 8 #[mapV k c, .complex .f32 z.1 z.2, .int .i64 (m : Int)] w fun e w' => ∃ g c', e = .returned (.tuple #[.slice (some ⟨g, 0, none⟩) m c', .bool true]) ∧ w'.ownsRow w.heap.size 25 1 (.slice (some ⟨g, 0, none⟩) m c') m ((List.range m).map (fun i => cxv (f i))) ∧ Below w.heap.size w w' := by
  have VM := Lib.hid (fun w => ValidMap_ok k c w hk hc)
  have AT := Lib.hid (fun w => areTurns_w m w hm)
  have SZ := Lib.hid hs0
  rw [f0] at SZ
  have NX := Lib.hid hnx
  have SM := Lib.hid hsm
  have FI := Lib.hid hfi
  obtain ⟨v, ev⟩ : ∃ v, v = w.alloc (.cells #[.int .i64 (k : Int), .complex .f32 c.1 c.2] 28) := ⟨_, rfl⟩
  have B0 : Hid (Blk v w.heap.size 28 #[.int .i64 (k : Int), .complex .f32 c.1 c.2]) := by rw [ev]; exact Lib.hid (Blk.new _ _ _)
  have e0 : v.cell? ⟨w.heap.size, 0, none⟩ = some (.int .i64 (k : Int)) := B0.out.cell 0
  have e1 : v.cell? ⟨w.heap.size, 1, none⟩ = some (.complex .f32 c.1 c.2) := B0.out.cell 1
  have V0 : Hid (Below w.heap.size w v) := by rw [ev]; exact Lib.hid (below_new _ _)
  have EV := Lib.hid ev
  rw [ev] at e0 e1
  obtain ⟨p, q⟩ := c
  obtain ⟨za, zb⟩ := z
  unfold mapV at VM NX ⊢
  clear hc ev hs0 hnx hsm hfi
  go_enter Try.func8, Try.ntmps8
  go_wp2_with fail
  rw [← EV.out]
  refine (VM.out _).mono ?_
  rintro e w1 ⟨rfl, hb1⟩
  have V1 := Lib.hid (V0.out.trans (hb1.mono V0.out.size))
  have B1 := Lib.hid (B0.out.below hb1 B0.out.lt)
  clear hb1 V0 EV e0 e1 B0 VM
  go_wp2_with fail
  refine (SZ.out _).mono ?_
  rintro e w2 ⟨rfl, hw2⟩
  obtain rfl := hw2.symm
  go_wp2_with fail
  refine (AT.out _).mono ?_
  rintro e w3 ⟨rfl, hw3⟩
  obtain rfl := hw3.symm
  obtain ⟨w4, ew4⟩ : ∃ w4, w4 = w1.alloc (.cells #[] 25) := ⟨_, rfl⟩
  have hz1 : w.heap.size + 1 ≤ w1.heap.size := B1.out.lt
  have B4 : Hid (Blk w4 w.heap.size 28 #[.int .i64 (k : Int), .complex .f32 p q]) := by rw [ew4]; exact Lib.hid (B1.out.alloc _)
  have V4 : Hid (Below w.heap.size w w4) := by rw [ew4]; exact Lib.hid (V1.out.alloc V1.out.size _)
  have O4 : Hid (w4.ownsRow (w.heap.size + 1) 25 1 (.slice (some ⟨w1.heap.size, 0, none⟩) 0 0) 0 ((List.range 0).map (fun i => cxv (f i)))) := by
    rw [ew4]
    exact Lib.hid (own_base ((Blk.new w1 _ _).own (n := 0) (size := 1) (Nat.le_refl _) rfl (by unfold maxLen; omega)) hz1)
  have E4 := Lib.hid ew4
  clear ew4 B1 V1 SZ AT
  go_wp2
  rw [← E4.out]
  clear E4
  have f0a : (za, zb) = f 0 := f0.symm
  have fa : za = (f 0).1 := by rw [← f0a]
  have fb : zb = (f 0).2 := by rw [← f0a]
  have FA := Lib.hid fa
  have FB := Lib.hid fb
  clear f0 f0a fa fb
  go_loopw [1, 8, 25] (fun sz so si wr => ∃ (i g c' : Nat), si = .int .i64 (i : Int) ∧ i ≤ m ∧ so = .slice (some ⟨g, 0, none⟩) i c' ∧ sz = .complex .f32 (f (i - 1)).1 (f (i - 1)).2 ∧ Hid (wr.ownsRow (w.heap.size + 1) 25 1 (.slice (some ⟨g, 0, none⟩) i c') i ((List.range i).map (fun i => cxv (f i)))) ∧ Hid (Blk wr w.heap.size 28 #[.int .i64 (k : Int), .complex .f32 p q]) ∧ Hid (Below w.heap.size w wr)) (fun _ _ si _ => m - (intOf si).toNat)
  case atStart => exact ⟨0, w1.heap.size, 0, rfl, Nat.zero_le _, rfl, by rw [FA.out, FB.out], O4, B4, V4⟩
  case round =>
    clear O4 B4 V4
    obtain ⟨i, g, c', rfl, hi, rfl, rfl, O, B, V⟩ := hrel
    by_cases hlt : i < m
    · have hii : (i : Int) < (m : Int) := by omega
      have STEP : ∀ (wq : World) (hO : Hid (wq.ownsRow (w.heap.size + 1) 25 1 (.slice (some ⟨g, 0, none⟩) i c') i ((List.range i).map (fun i => cxv (f i))))), w.heap.size + 1 ≤ wq.heap.size := fun wq hO => by
        have h1 := hO.out.lt g (by simp [Value.ownBlock])
        omega
      by_cases h0 : 0 < i
      · have hg0 : decide ((0 : Int) < (i : Int)) = true := by simpa using h0
        have SMI := Lib.hid (SM.out (i - 1) (by omega) wr)
        have NXI := NX.out (i - 1) (by omega) wr
        rw [show i - 1 + 1 = i by omega] at NXI
        have NXI := Lib.hid NXI
        have e0 := B.out.cell 0
        have e1 := B.out.cell 1
        go_wp2_with fail
        refine SMI.out.mono ?_
        rintro e w5 ⟨rfl, hw5⟩
        obtain rfl := hw5.symm
        go_wp2_with fail
        refine NXI.out.mono ?_
        rintro e w6 ⟨rfl, hb6⟩
        have B6 := Lib.hid (B.out.below hb6 B.out.lt)
        have V6 := Lib.hid (V.out.trans (hb6.mono V.out.size))
        have O6 := Lib.hid (own_below O.out hb6)
        have hzA := STEP w6 O6
        clear hb6 B V O e0 e1 NXI SMI STEP
        go_wp2_with (first
          | (at_builtin; refine wpList_append_one (P := Try.prog) (W := w6) rfl _ _ _ rfl (w.heap.size + 1) 25 (.complex .f32 0 0) 8 Try.underlying32 cxInfo rfl (some ⟨g, 0, none⟩) i c' ((List.range i).map (fun i => cxv (f i))) rfl O6.out (.complex .f32 (f i).1 (f i).2) w6.heap.size rfl rfl rfl (by unfold maxLen; omega) (by omega) hzA ?_; intro A9 c9 w9 ho9 hg9 hd9)
          | fail)
        obtain ⟨g9, c9', e9, _, _⟩ := ho9.form (by omega)
        rw [e9] at ho9
        have hlo : ∀ k, (Value.slice (some ⟨g, 0, none⟩) i c').ownBlock = some k → w.heap.size + 1 ≤ k := fun k e => (O6.out.lt k e).1
        have B9 := Lib.hid (B6.out.grown hg9 (own_blk_ne O6.out B6.out (by decide)))
        have V9 := Lib.hid (V6.out.grown hg9 V6.out.size (fun k e => by have := hlo k e; omega))
        have O9 : Hid (w9.ownsRow (w.heap.size + 1) 25 1 (.slice (some ⟨g9, 0, none⟩) (i + 1) c9') (i + 1) ((List.range (i + 1)).map (fun i => cxv (f i)))) := by
          rw [List.range_succ, List.map_append, List.map_cons, List.map_nil]
          exact Lib.hid ho9
        have E9 := Lib.hid e9
        clear ho9 hg9 hlo hd9 e9 hzA O6 B6 V6
        go_wp2
        go_roundw
        case rel => exact ⟨i + 1, g9, c9', by go_num, by omega, E9.out, rfl, O9, B9, V9⟩
        case measure => simp [intOf]; omega
      · have hg0 : decide ((0 : Int) < (i : Int)) = false := by simp; omega
        have hi0 : Hid (i = 0) := Lib.hid (by omega)
        have hzA := STEP wr O
        have e1 : Hid (f (i - 1) = f i) := Lib.hid (by rw [hi0.out])
        rw [e1.out]
        clear STEP
        go_wp2_with (first
          | (at_builtin; refine wpList_append_one (P := Try.prog) (W := wr) rfl _ _ _ rfl (w.heap.size + 1) 25 (.complex .f32 0 0) 8 Try.underlying32 cxInfo rfl (some ⟨g, 0, none⟩) i c' ((List.range i).map (fun i => cxv (f i))) rfl O.out (.complex .f32 (f i).1 (f i).2) wr.heap.size rfl rfl rfl (by unfold maxLen; omega) (by omega) hzA ?_; intro A9 c9 w9 ho9 hg9 hd9)
          | fail)
        obtain ⟨g9, c9', e9, _, _⟩ := ho9.form (by omega)
        rw [e9] at ho9
        have hlo : ∀ k, (Value.slice (some ⟨g, 0, none⟩) i c').ownBlock = some k → w.heap.size + 1 ≤ k := fun k e => (O.out.lt k e).1
        have B9 := Lib.hid (B.out.grown hg9 (own_blk_ne O.out B.out (by decide)))
        have V9 := Lib.hid (V.out.grown hg9 V.out.size (fun k e => by have := hlo k e; omega))
        have O9 : Hid (w9.ownsRow (w.heap.size + 1) 25 1 (.slice (some ⟨g9, 0, none⟩) (i + 1) c9') (i + 1) ((List.range (i + 1)).map (fun i => cxv (f i)))) := by
          rw [List.range_succ, List.map_append, List.map_cons, List.map_nil]
          exact Lib.hid ho9
        have E9 := Lib.hid e9
        clear ho9 hg9 hlo hd9 e9 hzA O B V
        go_wp2
        go_roundw
        case rel => exact ⟨i + 1, g9, c9', by go_num, by omega, E9.out, rfl, O9, B9, V9⟩
        case measure => simp [intOf]; omega
    · obtain rfl : i = m := by omega
      go_wp2_with fail
      refine (FI.out _).mono ?_
      rintro e w5 ⟨rfl, hw5⟩
      obtain rfl := hw5.symm
      go_wp2
      go_ret2
      exact ⟨g, c', rfl, own_base O.out (by omega), V.out⟩
/-- What PeriodOf's answer tells. -/
structure Per (f : Nat → Nat × Nat) (near p : Nat) : Prop where
  lo : 1 ≤ p
  hi : p ≤ 12
  small : ∀ i, i < 4 + p → smB (f i) = true
  at_ : (FloatKind.f32.format.order (dB (f (4 + p)) (f 4)) near == some .lt || FloatKind.f32.format.order (dB (f (4 + p)) (f 4)) near == some .eq) = true
  before : ∀ q, 1 ≤ q → q < p → (FloatKind.f32.format.order (dB (f (4 + q)) (f 4)) near == some .lt || FloatKind.f32.format.order (dB (f (4 + q)) (f 4)) near == some .eq) = false
set_option maxRecDepth 100000 in
set_option maxHeartbeats 4000000 in
theorem PeriodOf_ok (k : Nat) (c z : Nat × Nat) (near : Nat) (w : World) (hk : k ≤ 3) (hc : Cb ((2 : Nat) : Rat) c) (hz : Fb z) (hz1 : smB z = true) (hw : W32 z) (hn : Fl .f32 near) (hn0 : (FloatKind.f32.format.order near 0 == some .gt || FloatKind.f32.format.order near 0 == some .eq) = true) :
    Calls Try.prog 7 #[mapV k c, .complex .f32 z.1 z.2, .int .i64 4, .int .i64 12, .float .f32 near] w fun e w' => ∃ (p : Nat) (ok : Bool), e = .returned (.tuple #[.int .i64 (p : Int), .bool ok]) ∧ (ok = true → Per (orbB k c z) near p) ∧ Below w.heap.size w w' := by
  obtain ⟨f, ef⟩ : ∃ f, orbB k c z = f := ⟨_, rfl⟩
  have f0 : f 0 = z := by rw [← ef]; rfl
  have OK : Hid (∀ i, (∀ j, j < i → smB (f j) = true) → Fb (f i)) := Lib.hid fun i h => by
    have := (orbB_ok hk hc hz hw i (by rw [ef]; exact h)).1
    rwa [ef] at this
  have NX : Hid (∀ i, (∀ j, j < i + 1 → smB (f j) = true) → ∀ w : World, Calls Try.prog 25 #[mapV k c, .complex .f32 (f i).1 (f i).2] w fun e w' => e = .returned (.complex .f32 (f (i + 1)).1 (f (i + 1)).2) ∧ Below w.heap.size w w') := Lib.hid fun i h w => by
    have := orbB_step hk hc hz hw i (by rw [ef]; exact h) w
    rwa [ef] at this
  have VM := Lib.hid (fun w => ValidMap_ok k c w hk hc)
  have SZ : Hid (∀ w : World, Calls Try.prog 21 #[.complex .f32 z.1 z.2] w fun e w' => e = .returned (.bool true) ∧ w' = w) := Lib.hid fun w => by
    have := isSmall_any hz.f1 hz.f2 w
    rwa [hz1] at this
  have AT := Lib.hid (fun w => areTurns_w 4 w (by omega))
  have WI := Lib.hid (fun w => within_w 12 1 128 w (by omega) (by omega))
  have IF := Lib.hid (fun w => isFinite_num hn w)
  have SA : Hid (∀ i, (∀ j, j < i → smB (f j) = true) → ∀ w : World, Calls Try.prog 21 #[.complex .f32 (f i).1 (f i).2] w fun e w' => e = .returned (.bool (smB (f i))) ∧ w' = w) := Lib.hid fun i h w => isSmall_any (OK.out i h).f1 (OK.out i h).f2 w
  rw [ef]
  obtain ⟨v, ev⟩ : ∃ v, v = w.alloc (.cells #[.int .i64 (k : Int), .complex .f32 c.1 c.2] 28) := ⟨_, rfl⟩
  have B0 : Hid (Blk v w.heap.size 28 #[.int .i64 (k : Int), .complex .f32 c.1 c.2]) := by rw [ev]; exact Lib.hid (Blk.new _ _ _)
  have e0 : v.cell? ⟨w.heap.size, 0, none⟩ = some (.int .i64 (k : Int)) := B0.out.cell 0
  have e1 : v.cell? ⟨w.heap.size, 1, none⟩ = some (.complex .f32 c.1 c.2) := B0.out.cell 1
  have V0 : Hid (Below w.heap.size w v) := by rw [ev]; exact Lib.hid (below_new _ _)
  have EV := Lib.hid ev
  rw [ev] at e0 e1
  obtain ⟨p, q⟩ := c
  obtain ⟨za, zb⟩ := z
  unfold mapV at VM NX ⊢
  have f0a : (za, zb) = f 0 := f0.symm
  have FA : Hid (za = (f 0).1) := Lib.hid (by rw [← f0a])
  have FB : Hid (zb = (f 0).2) := Lib.hid (by rw [← f0a])
  clear hc hz hz1 hw ev ef hn f0 f0a
  simp only at SZ
  go_enter Try.func7, Try.ntmps7
  go_wp2_with fail
  rw [← EV.out]
  refine (VM.out _).mono ?_
  rintro e w1 ⟨rfl, hb1⟩
  have V1 := Lib.hid (V0.out.trans (hb1.mono V0.out.size))
  have B1 := Lib.hid (B0.out.below hb1 B0.out.lt)
  clear hb1 V0 EV e0 e1 B0 VM
  go_wp2_with fail
  refine (SZ.out _).mono ?_
  rintro e w2 ⟨rfl, hw2⟩
  obtain rfl := hw2.symm
  go_wp2_with fail
  refine (AT.out _).mono ?_
  rintro e w3 ⟨rfl, hw3⟩
  obtain rfl := hw3.symm
  go_wp2_with fail
  refine (WI.out _).mono ?_
  rintro e w3 ⟨rfl, hw3⟩
  obtain rfl := hw3.symm
  go_wp2_with fail
  refine (IF.out _).mono ?_
  rintro e w3 ⟨rfl, hw3⟩
  obtain rfl := hw3.symm
  clear SZ AT WI IF
  go_wp2
  go_loopw [1, 43] (fun sz si wr => ∃ i : Nat, si = .int .i64 (i : Int) ∧ i ≤ 4 ∧ sz = .complex .f32 (f i).1 (f i).2 ∧ Hid (∀ j, j < i → smB (f j) = true) ∧ Hid (Blk wr w.heap.size 28 #[.int .i64 (k : Int), .complex .f32 p q]) ∧ Hid (Below w.heap.size w wr)) (fun _ si _ => 4 - (intOf si).toNat)
  case atStart => exact ⟨0, rfl, by omega, by rw [FA.out, FB.out], Lib.hid fun j hj => absurd hj (Nat.not_lt_zero j), B1, V1⟩
  case round =>
    clear B1 V1 FA FB
    obtain ⟨i, rfl, hi, rfl, SJ, B, V⟩ := hrel
    by_cases hlt : i < 4
    · have hii : (i : Int) < 4 := by omega
      have SI := Lib.hid (SA.out i SJ.out wr)
      have NI : Hid (smB (f i) = true → ∀ w : World, _) := Lib.hid fun h => NX.out i (fun j hj => by
        rcases Nat.lt_succ_iff_lt_or_eq.1 hj with hj | rfl
        · exact SJ.out j hj
        · exact h)
      obtain ⟨sm, esm⟩ : ∃ s, smB (f i) = s := ⟨_, rfl⟩
      rw [esm] at SI NI
      have ESM := Lib.hid esm
      have e0 := B.out.cell 0
      have e1 := B.out.cell 1
      clear esm NX SA OK
      go_wp2_with fail
      refine SI.out.mono ?_
      rintro e w5 ⟨rfl, hw5⟩
      obtain rfl := hw5.symm
      cases sm with
      | false =>
        go_wp2
        go_ret2
        exact ⟨0, false, rfl, fun e => (by cases e), V.out⟩
      | true =>
        have NJ := Lib.hid (NI.out rfl)
        clear NI
        go_wp2_with fail
        refine (NJ.out _).mono ?_
        rintro e w6 ⟨rfl, hb6⟩
        have B6 := Lib.hid (B.out.below hb6 B.out.lt)
        have V6 := Lib.hid (V.out.trans (hb6.mono V.out.size))
        clear hb6 B V e0 e1 NJ SI
        go_wp2
        go_roundw
        case rel =>
          refine ⟨i + 1, by go_num, by omega, rfl, Lib.hid fun j hj => ?_, B6, V6⟩
          rcases Nat.lt_succ_iff_lt_or_eq.1 hj with hj | rfl
          · exact SJ.out j hj
          · exact ESM.out
        case measure => simp [intOf]; omega
    · obtain ⟨r4, e4⟩ : ∃ r, i = r := ⟨_, rfl⟩
      rw [e4] at hi hlt SJ ⊢
      have I4 : Hid (r4 = 4) := Lib.hid (by omega)
      clear e4
      go_wp2
      go_loopw [1, 13] (fun sz si wr => ∃ (q' i : Nat), si = .int .i64 (q' : Int) ∧ 1 ≤ q' ∧ q' ≤ 13 ∧ Hid (i = 3 + q') ∧ sz = .complex .f32 (f i).1 (f i).2 ∧ Hid (∀ j, j < i → smB (f j) = true) ∧ Hid (∀ r, 1 ≤ r → r < q' → (FloatKind.f32.format.order (dB (f (4 + r)) (f r4)) near == some .lt || FloatKind.f32.format.order (dB (f (4 + r)) (f r4)) near == some .eq) = false) ∧ Hid (Blk wr w.heap.size 28 #[.int .i64 (k : Int), .complex .f32 p q]) ∧ Hid (Below w.heap.size w wr)) (fun _ si _ => 13 - (intOf si).toNat)
      case atStart => exact ⟨1, r4, rfl, by omega, by omega, Lib.hid (by have := I4.out; omega), rfl, SJ, Lib.hid fun r h1 h2 => by omega, B, V⟩
      case round =>
        have F4 := Lib.hid (OK.out r4 SJ.out)
        clear B V SJ
        obtain ⟨q', i, rfl, hq1, hq13, HI, rfl, SJ, HD, B, V⟩ := hrel
        by_cases hlt : q' ≤ 12
        · have hii : (q' : Int) ≤ 12 := by omega
          have SI := Lib.hid (SA.out i SJ.out wr)
          have NI : Hid (smB (f i) = true → (∀ w : World, _) ∧ (∀ j, j < i + 1 → smB (f j) = true)) := Lib.hid fun h => by
            have H : ∀ j, j < i + 1 → smB (f j) = true := fun j hj => by
              rcases Nat.lt_succ_iff_lt_or_eq.1 hj with hj | rfl
              · exact SJ.out j hj
              · exact h
            exact ⟨NX.out i H, H⟩
          obtain ⟨sm, esm⟩ : ∃ s, smB (f i) = s := ⟨_, rfl⟩
          rw [esm] at SI NI
          have e0 := B.out.cell 0
          have e1 := B.out.cell 1
          clear esm NX SA
          go_wp2_with fail
          refine SI.out.mono ?_
          rintro e w5 ⟨rfl, hw5⟩
          obtain rfl := hw5.symm
          cases sm with
          | false =>
            go_wp2
            go_ret2
            exact ⟨0, false, rfl, fun e => (by cases e), V.out⟩
          | true =>
            obtain ⟨nj, HJ⟩ := NI.out rfl
            have NJ := Lib.hid nj
            obtain ⟨u, v2, u1, v1, L1, FL⟩ := dB_ok (OK.out (i + 1) HJ) F4.out
            have C1 := Lib.hid (fun w => subW w u1 v1)
            have C2 := Lib.hid L1
            have HJ := Lib.hid HJ
            have ei : i + 1 = 4 + q' := by have := HI.out; omega
            have EI := Lib.hid ei
            have hself : (FloatKind.f32.format.order (dB (f (i + 1)) (f r4)) near == some .lt || FloatKind.f32.format.order (dB (f (i + 1)) (f r4)) near == some .eq) = (FloatKind.f32.format.order (dB (f (4 + q')) (f r4)) near == some .lt || FloatKind.f32.format.order (dB (f (4 + q')) (f r4)) near == some .eq) := by rw [ei]
            have HS := Lib.hid hself
            obtain ⟨d, ed⟩ : ∃ d, dB (f (i + 1)) (f r4) = d := ⟨_, rfl⟩
            rw [ed] at C2 HS
            clear NI nj u1 v1 L1 FL hself ed ei OK
            go_wp2_with fail
            refine (NJ.out _).mono ?_
            rintro e w6 ⟨rfl, hb6⟩
            have B6 := Lib.hid (B.out.below hb6 B.out.lt)
            have V6 := Lib.hid (V.out.trans (hb6.mono V.out.size))
            clear hb6 B V e0 e1 NJ SI
            go_wp2_with fail
            refine (C1.out _).mono ?_
            rintro e w7 ⟨rfl, hw7⟩
            obtain rfl := hw7.symm
            go_wp2_with fail
            refine (C2.out _).mono ?_
            rintro e w7 ⟨rfl, hw7⟩
            obtain rfl := hw7.symm
            clear C1 C2
            by_cases hle : (FloatKind.f32.format.order d near == some .lt || FloatKind.f32.format.order d near == some .eq) = true
            · have HL := Lib.hid (HS.out.symm.trans hle)
              clear HS
              go_wp2
              go_ret2
              exact ⟨q', true, rfl, fun _ => ⟨hq1, hlt, fun j hj => HJ.out j (by have := EI.out; omega), by rw [← I4.out]; simpa only [I4.out] using HL.out, fun r h1 h2 => by have := HD.out r h1 h2; rw [I4.out] at this; exact this⟩, V6.out⟩
            · have hle : (FloatKind.f32.format.order d near == some .lt || FloatKind.f32.format.order d near == some .eq) = false := by simpa using hle
              have HL := Lib.hid (HS.out.symm.trans hle)
              clear HS
              go_wp2
              go_roundw
              case rel =>
                refine ⟨q' + 1, i + 1, by go_num, by omega, by omega, Lib.hid (by have := HI.out; omega), rfl, HJ, Lib.hid fun r h1 h2 => ?_, B6, V6⟩
                rcases Nat.lt_succ_iff_lt_or_eq.1 h2 with h2 | rfl
                · exact HD.out r h1 h2
                · exact HL.out
              case measure => simp [intOf]; omega
        · have hii : ¬ (q' : Int) ≤ 12 := by omega
          have hii2 : (12 : Int) < (q' : Int) := by omega
          go_wp2
          go_ret2
          exact ⟨0, .inl ⟨rfl, V.out⟩⟩
end Go.Proofs.Ytjmidicidgaapaa
