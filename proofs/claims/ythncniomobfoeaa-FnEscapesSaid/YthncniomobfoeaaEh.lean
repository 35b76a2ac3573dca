/- Walk: counts without steps. Conditions: a valid map whose number is at most 2 in its parts. -/
import Derived.Test.YthncniomobfoeaaEg
namespace Go.Proofs.Ythncniomobfoeaa
open Go.RowKit
open Num Quick
attribute [local go_sem] run_store_fl run_store_cx

theorem repS {m : Int} {n : Nat} {v : Rat} (hm : m.natAbs ≤ 16777216) (hn : n ≤ 149) (e : (m : Rat) / ((2 ^ n : Nat) : Rat) = v) : Rep FloatKind.f32.format v := by
  have := rep_frac .f32 m n hm hn
  rw [e] at this
  exact this
theorem half32 : Fl .f32 1056964608 ∧ Num.fv .f32 1056964608 = 1 / 2 := by
  refine ⟨?_, ?_⟩
  · show (1056964608 : Nat) % FloatKind.f32.format.signWeight < FloatKind.f32.format.infRung
    decide +kernel
  · unfold Num.fv val rv p2
    decide +kernel
/-- The numbers of a count without steps. -/
theorem smooth_num {n p B : Nat} (hn : n ≤ 100) (hp : Fl .f32 p) (hp1 : 4 ≤ Num.fv .f32 p) (hp2 : Num.fv .f32 p ≤ 32768) (hB : B = 1073741824 ∨ B = 1077936128) :
    ∃ s1 y h l q o L, floatBits .add .f32 (floatOfInt .f32 (n : Int)) 1065353216 = some s1 ∧ (∀ w : World, Calls Try.prog 30 #[.float .f32 p] w fun e w' => e = .returned (.float .f32 y) ∧ w' = w) ∧ floatBits .mul .f32 1056964608 y = some h ∧
      (∀ w : World, Calls Try.prog 30 #[.float .f32 h] w fun e w' => e = .returned (.float .f32 l) ∧ w' = w) ∧ (∀ w : World, Calls Try.prog 30 #[.float .f32 B] w fun e w' => e = .returned (.float .f32 L) ∧ w' = w) ∧ floatBits .quo .f32 l L = some q ∧ floatBits .sub .f32 s1 q = some o ∧
      Fl .f32 o ∧ InR (Num.fv .f32 o - (n : Rat)) (15 / 4) := by
  have t : (1000 : Rat) ≤ top := by decide +kernel
  obtain ⟨T, eT⟩ : ∃ T : Rat, top = T := ⟨_, rfl⟩
  rw [eT] at t
  obtain ⟨i1, i2, _⟩ := fint .f32 (n : Int) (by omega)
  rw [Rat.intCast_natCast] at i2
  have n0 : (0 : Rat) ≤ (n : Rat) := Rat.natCast_nonneg
  have n1 : (n : Rat) ≤ 100 := by
    have : ((n : Nat) : Rat) ≤ ((100 : Nat) : Rat) := Rat.natCast_le_natCast.2 hn
    exact this
  obtain ⟨s1, a1, a2⟩ := fadd i1 c1.1 (by rw [i2, c1.2, eT]; grind) (by rw [i2, c1.2, eT]; grind)
  rw [i2, c1.2] at a2
  have a3 : Num.fv .f32 s1 = (n : Rat) + 1 := a2.num ((n : Int) + 1) 0 (by
    rw [Rat.intCast_add, Rat.intCast_natCast]
    have : ((2 ^ 0 : Nat) : Rat) = 1 := rfl
    rw [this]
    have : ((1 : Int) : Rat) = 1 := rfl
    rw [this]
    grind) (by omega) (by omega)
  have e15 : ((2 ^ 15 : Nat) : Rat) = 32768 := rfl
  have e2 : ((2 ^ 2 : Nat) : Rat) = 4 := rfl
  obtain ⟨y, Y, y1, y2, y3⟩ := log32 (a := 2) (b := 15) (by omega) hp (by rw [e15]; exact hp2) (.inr (by rw [e2]; exact hp1)) (by grind)
  rw [if_neg (by decide)] at y2
  have q2 : ((2 : Nat) : Rat) = 2 := rfl
  have q15 : ((15 : Nat) : Rat) = 15 := rfl
  rw [q2] at y2
  rw [q15] at y3
  obtain ⟨h, h1, h2⟩ := fmul half32.1 y1 (by rw [half32.2, eT]; grind) (by rw [half32.2, eT]; grind)
  rw [half32.2] at h2
  have h3 : 1 / 2 ≤ Num.fv .f32 h := h2.ge _ (repS (m := 1) (n := 1) (by decide) (by decide) rfl) (by grind)
  have h4 : Num.fv .f32 h ≤ 6 := h2.le _ (repS (m := 6) (n := 0) (by decide) (by decide) (by decide +kernel)) (by grind)
  have e3 : ((2 ^ 3 : Nat) : Rat) = 8 := rfl
  obtain ⟨l, Lw, l1, l2, l3⟩ := log32 (a := 0) (b := 3) (by omega) h2.fin (by rw [e3]; grind) (.inl rfl) (by grind)
  rw [if_pos rfl] at l2
  have q3 : ((3 : Nat) : Rat) = 3 := rfl
  rw [q3] at l3
  obtain ⟨L, LL, g1, g2, g3⟩ := base_log B hB
  obtain ⟨X, eX⟩ : ∃ X, Num.fv .f32 l = X := ⟨_, rfl⟩
  obtain ⟨D, eD⟩ : ∃ D, Num.fv .f32 L = D := ⟨_, rfl⟩
  rw [eX] at l2 l3
  rw [eD] at g2 g3
  have k1 : X / D * D = X := by grind
  have k2 : X / D ≤ 17 / 4 := by
    refine rat_cancel (c := D) (by grind) ?_
    rw [k1]
    grind
  have k3 : -11 / 4 ≤ X / D := by
    refine rat_cancel (c := D) (by grind) ?_
    rw [k1]
    grind
  obtain ⟨q, r1, r2⟩ := fdiv l1 g1 (by rw [eD]; grind) (by rw [eX, eD, eT]; grind) (by rw [eX, eD, eT]; grind)
  rw [eX, eD] at r2
  have r3 : -11 / 4 ≤ Num.fv .f32 q := r2.ge _ (repS (m := -11) (n := 2) (by decide) (by decide) rfl) k3
  have r4 : Num.fv .f32 q ≤ 17 / 4 := r2.le _ (repS (m := 17) (n := 2) (by decide) (by decide) rfl) k2
  obtain ⟨o, o1, o2⟩ := fsub a2.fin r2.fin (by rw [a3, eT]; grind) (by rw [a3, eT]; grind)
  rw [a3] at o2
  have u1 : Num.fv .f32 o ≤ (n : Rat) + 15 / 4 := o2.le _ (repS (m := 4 * (n : Int) + 15) (n := 2) (by omega) (by decide) (by
    rw [Rat.intCast_add, Rat.intCast_mul, Rat.intCast_natCast]
    have x4 : ((2 ^ 2 : Nat) : Rat) = 4 := rfl
    have x5 : ((4 : Int) : Rat) = 4 := rfl
    have x6 : ((15 : Int) : Rat) = 15 := rfl
    rw [x4, x5, x6]
    grind)) (by grind)
  have u2 : (n : Rat) - 13 / 4 ≤ Num.fv .f32 o := o2.ge _ (repS (m := 4 * (n : Int) - 13) (n := 2) (by omega) (by decide) (by
    rw [Rat.intCast_sub, Rat.intCast_mul, Rat.intCast_natCast]
    have x4 : ((2 ^ 2 : Nat) : Rat) = 4 := rfl
    have x5 : ((4 : Int) : Rat) = 4 := rfl
    have x6 : ((13 : Int) : Rat) = 13 := rfl
    rw [x4, x5, x6]
    grind)) (by grind)
  refine ⟨s1, y, h, l, q, o, L, a1, Y, h1, Lw, LL, r1, o1, o2.fin, ?_⟩
  unfold InR
  constructor <;> grind
/-- The power of a number that is reached. -/
theorem pw_le {z : Nat × Nat} (h : Cb ((110 : Nat) : Rat) z) : Num.fv .f32 (pw z) ≤ 32768 := by
  have hp := (pw_ok h).2
  have e : ((110 : Nat) : Rat) = 110 := rfl
  have h1 := h.2.2.1
  have h2 := h.2.2.2
  rw [e] at h1 h2
  have s1 := prod_in h1 h1 (by decide)
  have s2 := prod_in h2 h2 (by decide)
  have := hp.le_int 32768 (by decide) (by
    have : ((32768 : Int) : Rat) = 32768 := rfl
    rw [this]
    unfold InR at s1 s2
    grind)
  exact this
set_option maxRecDepth 100000 in
set_option maxHeartbeats 2000000 in
theorem SmoothOf_ok (k m : Nat) (c z : Nat × Nat) (w : World) (hk : k ≤ 3) (hc : Cb ((2 : Nat) : Rat) c) (hz : Cb ((110 : Nat) : Rat) z) (hw : W32 z) (hm : m ≤ 100) :
    Calls Try.prog 9 #[mapV k c, .complex .f32 z.1 z.2, .int .i64 (m : Int)] w fun e w' => ∃ s, e = .returned (.tuple #[.float .f32 s, .bool true]) ∧ Fl .f32 s ∧ 0 ≤ Num.fv .f32 s ∧ InR (Num.fv .f32 s - (cnt k c z m : Rat)) (15 / 4) ∧ (cnt k c z m = m → s = floatOfInt .f32 (m : Int)) ∧ Below w.heap.size w w' := by
  have C1 := Lib.hid (fun w => areEscape_ok k m c z w hk hc hz (by omega))
  have C2 := Lib.hid (fun w => escape_ok k m c z w hk hc hz hw (by omega))
  obtain ⟨q1, q2, q3, q4⟩ := esc_ok (fun i => out (orb k c z i)) m 0
  have OB := orb_ok hk hc hz hw (fun i h => q3 i (Nat.zero_le _) h) _ (Nat.le_refl _)
  obtain ⟨n, en⟩ : ∃ n, cnt k c z m = n := ⟨_, rfl⟩
  unfold cnt at en ⊢
  rw [en] at C2 q2 q4 OB ⊢
  have PW := pw_ok OB.1
  have PL := pw_le OB.1
  have HO : n < m → 4 ≤ Num.fv .f32 (pw (orb k c z n)) := fun h => by
    have := q4 (by omega)
    unfold out at this
    have := of_decide_eq_true this
    exact Rat.le_of_lt this
  obtain ⟨o, eo⟩ : ∃ o, orb k c z n = o := ⟨_, rfl⟩
  rw [eo] at C2 PW PL HO
  obtain ⟨pp, ep⟩ : ∃ p, pw o = p := ⟨_, rfl⟩
  rw [ep] at PW PL HO
  have P := Lib.hid PW.1
  have hpf := PW.2.fin
  obtain ⟨v, ev⟩ : ∃ v, v = w.alloc (.cells #[.int .i64 (k : Int), .complex .f32 c.1 c.2] 28) := ⟨_, rfl⟩
  have B0 : Hid (Blk v w.heap.size 28 #[.int .i64 (k : Int), .complex .f32 c.1 c.2]) := by rw [ev]; exact Lib.hid (Blk.new _ _ _)
  have e0 : v.cell? ⟨w.heap.size, 0, none⟩ = some (.int .i64 (k : Int)) := B0.out.cell 0
  have e1 : v.cell? ⟨w.heap.size, 1, none⟩ = some (.complex .f32 c.1 c.2) := B0.out.cell 1
  have V0 : Hid (Below w.heap.size w v) := by rw [ev]; exact Lib.hid (below_new _ _)
  have EV := Lib.hid ev
  rw [ev] at e0 e1
  obtain ⟨p, q⟩ := c
  unfold mapV at C1 C2 ⊢
  clear hc hz hw ev en eo q1 q3 q4 PW OB ep
  go_enter Try.func9, Try.ntmps9
  go_wp2_with fail
  rw [← EV.out]
  refine (C1.out _).mono ?_
  rintro e w1 ⟨rfl, hb1⟩
  have V1 := Lib.hid (V0.out.trans (hb1.mono V0.out.size))
  have B1 := Lib.hid (B0.out.below hb1 B0.out.lt)
  clear hb1 V0 EV e0 e1 B0
  have e0 := B1.out.cell 0
  have e1 := B1.out.cell 1
  go_wp2_with fail
  refine (C2.out _).mono ?_
  rintro e w2 ⟨rfl, hb2⟩
  have V2 := Lib.hid (V1.out.trans (hb2.mono V1.out.size))
  have B2 := Lib.hid (B1.out.below hb2 B1.out.lt)
  clear hb2 V1 B1 e0 e1
  have e0 := B2.out.cell 0
  have qn := rInt32 (n : Int)
  have n0 : (0 : Rat) ≤ (n : Rat) := Rat.natCast_nonneg
  by_cases hnm : n = m
  · subst hnm
    obtain ⟨i1, i2, _⟩ := fint .f32 (n : Int) (by omega)
    rw [Rat.intCast_natCast] at i2
    go_wp2
    go_ret2
    refine ⟨_, rfl, i1, by rw [i2]; exact n0, by rw [i2]; unfold InR; constructor <;> grind, by first | exact fun _ => rfl | rfl, V2.out⟩
  · have hnm2 : (n : Int) ≠ (m : Int) := by omega
    have hnb : ((n : Int) == (m : Int)) = false := by simpa using hnm2
    obtain ⟨B, hB, hBk⟩ : ∃ B, (B = 1073741824 ∨ B = 1077936128) ∧ B = if k = 1 then 1077936128 else 1073741824 := ⟨_, by split <;> simp, rfl⟩
    obtain ⟨s1, y, h, l, qq, oo, L, a1, Y, h1, LW, LL, r1, o1, of, og⟩ := smooth_num (n := n) (p := pp) (by omega) hpf (HO (by omega)) PL hB
    have Y := Lib.hid Y
    have LW := Lib.hid LW
    have LL := Lib.hid LL
    have t1 := r32 a1
    have t2 := r32 h1
    have t3 := r32 r1
    have t4 := r32 o1
    have NU := Lib.hid (fun w => ifNumber_num of w)
    have OF := Lib.hid of
    have OG := Lib.hid og
    have hlo : (FloatKind.f32.format.order oo 0 == some .lt) = decide (Num.fv .f32 oo < 0) := by
      by_cases c : Num.fv .f32 oo < 0
      · rw [decide_eq_true c, cmp_lt' of c0.1 (by rw [c0.2]; exact c)]; decide
      · rw [decide_eq_false c]
        exact not_lt_cmp of c0.1 (by rw [c0.2]; exact Rat.not_lt.1 c)
    clear a1 h1 r1 o1 of og hpf HO PL hnm2
    by_cases c : Num.fv .f32 oo < 0
    · rw [decide_eq_true c] at hlo
      have HC := Lib.hid c
      clear c
      by_cases hk1 : k = 1
      · rw [if_pos hk1] at hBk
        subst hBk
        have hkb : ((k : Int) == 1) = true := by subst hk1; rfl
        clear hB
        go_wp2_with fail
        refine (P.out _).mono ?_
        rintro e w3 ⟨rfl, hw3⟩
        obtain rfl := hw3.symm
        go_wp2_with fail
        refine (Y.out _).mono ?_
        rintro e w3 ⟨rfl, hw3⟩
        obtain rfl := hw3.symm
        go_wp2_with fail
        refine (LW.out _).mono ?_
        rintro e w3 ⟨rfl, hw3⟩
        obtain rfl := hw3.symm
        go_wp2_with fail
        refine (LL.out _).mono ?_
        rintro e w3 ⟨rfl, hw3⟩
        obtain rfl := hw3.symm
        go_wp2
        go_ret2
        refine ⟨0, rfl, c0.1, by rw [c0.2]; exact Rat.le_refl, ?_, fun h => absurd h hnm, V2.out⟩
        have := OG.out
        have := HC.out
        rw [c0.2]
        unfold InR at *
        constructor <;> grind
      · rw [if_neg hk1] at hBk
        subst hBk
        have hkb : ((k : Int) == 1) = false := by simp; omega
        clear hB
        go_wp2_with fail
        refine (P.out _).mono ?_
        rintro e w3 ⟨rfl, hw3⟩
        obtain rfl := hw3.symm
        go_wp2_with fail
        refine (Y.out _).mono ?_
        rintro e w3 ⟨rfl, hw3⟩
        obtain rfl := hw3.symm
        go_wp2_with fail
        refine (LW.out _).mono ?_
        rintro e w3 ⟨rfl, hw3⟩
        obtain rfl := hw3.symm
        go_wp2_with fail
        refine (LL.out _).mono ?_
        rintro e w3 ⟨rfl, hw3⟩
        obtain rfl := hw3.symm
        go_wp2
        go_ret2
        refine ⟨0, rfl, c0.1, by rw [c0.2]; exact Rat.le_refl, ?_, fun h => absurd h hnm, V2.out⟩
        have := OG.out
        have := HC.out
        rw [c0.2]
        unfold InR at *
        constructor <;> grind
    · rw [decide_eq_false c] at hlo
      have HC := Lib.hid (Rat.not_lt.1 c)
      clear c
      by_cases hk1 : k = 1
      · rw [if_pos hk1] at hBk
        subst hBk
        have hkb : ((k : Int) == 1) = true := by subst hk1; rfl
        clear hB
        go_wp2_with fail
        refine (P.out _).mono ?_
        rintro e w3 ⟨rfl, hw3⟩
        obtain rfl := hw3.symm
        go_wp2_with fail
        refine (Y.out _).mono ?_
        rintro e w3 ⟨rfl, hw3⟩
        obtain rfl := hw3.symm
        go_wp2_with fail
        refine (LW.out _).mono ?_
        rintro e w3 ⟨rfl, hw3⟩
        obtain rfl := hw3.symm
        go_wp2_with fail
        refine (LL.out _).mono ?_
        rintro e w3 ⟨rfl, hw3⟩
        obtain rfl := hw3.symm
        go_wp2_with fail
        refine (NU.out _).mono ?_
        rintro e w3 ⟨rfl, hw3⟩
        obtain rfl := hw3.symm
        go_wp2
        go_ret2
        exact ⟨oo, rfl, OF.out, HC.out, OG.out, fun h => absurd h hnm, V2.out⟩
      · rw [if_neg hk1] at hBk
        subst hBk
        have hkb : ((k : Int) == 1) = false := by simp; omega
        clear hB
        go_wp2_with fail
        refine (P.out _).mono ?_
        rintro e w3 ⟨rfl, hw3⟩
        obtain rfl := hw3.symm
        go_wp2_with fail
        refine (Y.out _).mono ?_
        rintro e w3 ⟨rfl, hw3⟩
        obtain rfl := hw3.symm
        go_wp2_with fail
        refine (LW.out _).mono ?_
        rintro e w3 ⟨rfl, hw3⟩
        obtain rfl := hw3.symm
        go_wp2_with fail
        refine (LL.out _).mono ?_
        rintro e w3 ⟨rfl, hw3⟩
        obtain rfl := hw3.symm
        go_wp2_with fail
        refine (NU.out _).mono ?_
        rintro e w3 ⟨rfl, hw3⟩
        obtain rfl := hw3.symm
        go_wp2
        go_ret2
        exact ⟨oo, rfl, OF.out, HC.out, OG.out, fun h => absurd h hnm, V2.out⟩
end Go.Proofs.Ythncniomobfoeaa
