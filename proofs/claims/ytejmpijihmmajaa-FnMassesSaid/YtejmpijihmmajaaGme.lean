/- Walks: the mean of places, the middle of a field and how far its cells are spread. Conditions: sides of 1 to 6. -/
import Derived.Test.YtejmpijihmmajaaGmd
namespace Go.Proofs.Ytejmpijihmmajaa
open Go.RowKit
open Num Quick
attribute [local go_sem] run_store_fl run_store_cx

theorem icx_get {P : List (Nat × Nat)} {M k : Nat} (h : P.length = M) (hk : k < M) : (P.map icx)[k]? = some (.complex .f32 (iw (P.getD k (0, 0)).1) (iw (P.getD k (0, 0)).2)) := by
  have hkl : k < P.length := by omega
  rw [List.getElem?_map, List.getElem?_eq_getElem hkl, List.getD_eq_getElem?_getD, List.getElem?_eq_getElem hkl]; rfl
theorem plc_mem {P : List (Nat × Nat)} {M k : Nat} (h : P.length = M) (hk : k < M) : P.getD k (0, 0) ∈ P := by
  have hkl : k < P.length := by omega
  rw [List.getD_eq_getElem?_getD, List.getElem?_eq_getElem hkl]
  exact List.getElem_mem hkl
theorem cast_le {a b : Int} (h : a ≤ b) : (a : Rat) ≤ (b : Rat) := Rat.intCast_le_intCast.2 h
theorem rIntI (n : Int) : ∀ w : World, (convert 3 31 (.int .i64 n)).run Try.prog w = .ok (.float .f32 (floatOfInt .f32 n)) w := fun w => run_convert_int_float w _ _ _ _ _ (by rw [Try.underlying3]; rfl) Try.underlying31
theorem int_top {z : Int} (h : z.natAbs ≤ 1000000) : (z : Rat) ≤ top ∧ -top ≤ (z : Rat) := by
  have h1 := cast_le (show z ≤ 1000000 by omega)
  have h2 := cast_le (show -1000000 ≤ z by omega)
  have e : ((1000000 : Int) : Rat) ≤ top := by decide +kernel
  have e2 : (-top : Rat) ≤ ((-1000000 : Int) : Rat) := by decide +kernel
  grind
/-- A whole number's word. -/
def Wn (z : Int) (w : Nat) : Prop := Fl .f32 w ∧ Num.fv .f32 w = (z : Rat)
theorem wn_iw {n : Nat} (h : n ≤ 1000) : Wn (n : Int) (iw n) := iw_num h
theorem sum_step {a b c d : Nat} {x y z u : Int} (ha : Wn x a) (hb : Wn y b) (hc : Wn z c) (hd : Wn u d) (h1 : (x + z).natAbs ≤ 1000000) (h2 : (y + u).natAbs ≤ 1000000) :
    ∃ s t, (∀ w : World, Calls Try.prog 37 #[.complex .f32 a b, .complex .f32 c d] w fun e w' => e = .returned (.complex .f32 s t) ∧ w' = w) ∧ Wn (x + z) s ∧ Wn (y + u) t := by
  have e1 : Num.fv .f32 a + Num.fv .f32 c = ((x + z : Int) : Rat) := by rw [ha.2, hc.2, Rat.intCast_add]
  have e2 : Num.fv .f32 b + Num.fv .f32 d = ((y + u : Int) : Rat) := by rw [hb.2, hd.2, Rat.intCast_add]
  obtain ⟨s, t, C, r1, r2⟩ := add_num ha.1 hb.1 hc.1 hd.1 (by rw [e1]; exact int_top h1) (by rw [e2]; exact int_top h2)
  rw [e1] at r1
  rw [e2] at r2
  exact ⟨s, t, C, ⟨r1.fin, r1.exact _ (rep_nat .f32 _ (by omega))⟩, ⟨r2.fin, r2.exact _ (rep_nat .f32 _ (by omega))⟩⟩
theorem diff_step {a b c d : Nat} {x y z u : Int} (ha : Wn x a) (hb : Wn y b) (hc : Wn z c) (hd : Wn u d) (h1 : (x - z).natAbs ≤ 1000000) (h2 : (y - u).natAbs ≤ 1000000) :
    ∃ s t, (∀ w : World, Calls Try.prog 21 #[.complex .f32 a b, .complex .f32 c d] w fun e w' => e = .returned (.complex .f32 s t) ∧ w' = w) ∧ Wn (x - z) s ∧ Wn (y - u) t := by
  have e1 : Num.fv .f32 a - Num.fv .f32 c = ((x - z : Int) : Rat) := by rw [ha.2, hc.2, Rat.intCast_sub]
  have e2 : Num.fv .f32 b - Num.fv .f32 d = ((y - u : Int) : Rat) := by rw [hb.2, hd.2, Rat.intCast_sub]
  obtain ⟨s, t, C, r1, r2⟩ := subtract_num ha.1 hb.1 hc.1 hd.1 (by rw [e1]; exact int_top h1) (by rw [e2]; exact int_top h2)
  rw [e1] at r1
  rw [e2] at r2
  exact ⟨s, t, C, ⟨r1.fin, r1.exact _ (rep_nat .f32 _ (by omega))⟩, ⟨r2.fin, r2.exact _ (rep_nat .f32 _ (by omega))⟩⟩
/-- A finite word between 0 and a whole number. -/
def Btw (z : Int) (w : Nat) : Prop := Fl .f32 w ∧ 0 ≤ Num.fv .f32 w ∧ Num.fv .f32 w ≤ (z : Rat)
/-- A quotient by a count. -/
theorem quo_step {a : Nat} {x X M : Nat} (ha : Wn (x : Int) a) (hx : x ≤ X * M) (hM : 1 ≤ M) (hM2 : M ≤ 256) (hX : X ≤ 1000) : ∃ q, floatBits .quo .f32 a (floatOfInt .f32 (M : Int)) = some q ∧ Btw (X : Int) q := by
  obtain ⟨f1, f2, _⟩ := fint .f32 (M : Int) (by omega)
  have m0 : (0 : Rat) < (((M : Nat) : Int) : Rat) := by
    have := Rat.intCast_lt_intCast.2 (show (0 : Int) < (M : Int) by omega)
    exact this
  have hq0 : 0 ≤ Num.fv .f32 a / Num.fv .f32 (floatOfInt .f32 (M : Int)) := by
    rw [ha.2, f2]
    have : (0 : Rat) ≤ (((x : Nat) : Int) : Rat) := cast_le (show (0 : Int) ≤ (x : Int) by omega)
    have e : (((x : Nat) : Int) : Rat) / (((M : Nat) : Int) : Rat) * (((M : Nat) : Int) : Rat) = (((x : Nat) : Int) : Rat) := by grind
    exact rat_cancel m0 (by grind)
  have hq1 : Num.fv .f32 a / Num.fv .f32 (floatOfInt .f32 (M : Int)) ≤ (((X : Nat) : Int) : Rat) := by
    rw [ha.2, f2]
    have h : (((x : Nat) : Int) : Rat) ≤ (((X : Nat) : Int) : Rat) * (((M : Nat) : Int) : Rat) := by
      rw [← Rat.intCast_mul]
      exact cast_le (by have : ((X * M : Nat) : Int) = (X : Int) * (M : Int) := by simp
                        rw [← this]; omega)
    have e : (((x : Nat) : Int) : Rat) / (((M : Nat) : Int) : Rat) * (((M : Nat) : Int) : Rat) = (((x : Nat) : Int) : Rat) := by grind
    exact rat_cancel m0 (by grind)
  have hT := int_top (z := (X : Int)) (by omega)
  have t0 : (-top : Rat) ≤ 0 := by decide +kernel
  obtain ⟨q, q1, q2⟩ := fdiv ha.1 f1 (by rw [f2]; grind) (by grind) (by grind)
  refine ⟨q, q1, q2.fin, ?_, q2.le_int (X : Int) (by omega) hq1⟩
  have := q2.ge_int 0 (by decide) (by rw [Rat.intCast_zero]; exact hq0)
  rwa [Rat.intCast_zero] at this
set_option maxRecDepth 100000 in
set_option maxHeartbeats 1000000 in
theorem mean_ok (P : List (Nat × Nat)) (A : Option Addr) (M c X Y : Nat) (w : World) (hl : P.length = M) (hM : 1 ≤ M) (hM2 : M ≤ 256) (hX : X ≤ 100) (hY : Y ≤ 100) (hP : ∀ p ∈ P, p.1 ≤ X ∧ p.2 ≤ Y) (hA : Rd w w.heap.size 1 A M (P.map icx)) :
    Calls Try.prog 19 #[.slice A M c] w fun e w' => ∃ a b, e = .returned (.complex .f32 a b) ∧ w' = w ∧ Btw (X : Int) a ∧ Btw (Y : Int) b := by
  have HA := Lib.hid hA
  have HL := Lib.hid hl
  have HP := Lib.hid hP
  clear hA hl hP
  go_enter Try.func19, Try.ntmps19
  go_wp2
  go_loop [3, 9] (fun ss si => ∃ k a b x y : Nat, k ≤ M ∧ si = .int .i64 (k : Int) ∧ ss = .complex .f32 a b ∧ Hid (Wn (x : Int) a) ∧ Hid (Wn (y : Int) b) ∧ Hid (x ≤ X * k) ∧ Hid (y ≤ Y * k)) (fun _ i => M - (intOf i).toNat)
  case atStart => exact ⟨0, 0, 0, 0, 0, Nat.zero_le _, rfl, rfl, Lib.hid ⟨c0.1, by rw [c0.2]; rfl⟩, Lib.hid ⟨c0.1, by rw [c0.2]; rfl⟩, Lib.hid (Nat.zero_le _), Lib.hid (Nat.zero_le _)⟩
  case round =>
    obtain ⟨k, a, b, x, y, hk, rfl, rfl, WA, WB, LX, LY⟩ := hrel
    by_cases hlt : k < M
    · obtain ⟨bl, off, rfl, hbb, hc⟩ := HA.out.2 (by omega)
      have cP := hc k _ (icx_get HL.out hlt)
      have hp := HP.out _ (plc_mem HL.out hlt)
      generalize P.getD k (0, 0) = p at *
      have hx2 : X * k ≤ 100 * 256 := Nat.mul_le_mul hX (by omega)
      have hy2 : Y * k ≤ 100 * 256 := Nat.mul_le_mul hY (by omega)
      obtain ⟨s, t, AC, ws, wt⟩ := sum_step WA.out WB.out (wn_iw (n := p.1) (by omega)) (wn_iw (n := p.2) (by omega)) (by have := LX.out; omega) (by have := LY.out; omega)
      have ACH := Lib.hid AC
      have WS : Hid (Wn ((x + p.1 : Nat) : Int) s) := by rw [show ((x + p.1 : Nat) : Int) = (x : Int) + (p.1 : Int) from by simp]; exact Lib.hid ws
      have WT : Hid (Wn ((y + p.2 : Nat) : Int) t) := by rw [show ((y + p.2 : Nat) : Int) = (y : Int) + (p.2 : Int) from by simp]; exact Lib.hid wt
      have LX2 : Hid (x + p.1 ≤ X * (k + 1)) := by have := LX.out; unfold Hid; rw [Nat.mul_succ]; omega
      have LY2 : Hid (y + p.2 ≤ Y * (k + 1)) := by have := LY.out; unfold Hid; rw [Nat.mul_succ]; omega
      have hkI : (k : Int) < (M : Int) := by omega
      clear AC ws wt WA WB LX LY hc
      generalize iw p.1 = p1 at *
      generalize iw p.2 = p2 at *
      go_wp2_with (go_at_call 37; refine (ACH.out _).mono ?_; rintro e w5 ⟨rfl, hw5⟩; obtain rfl := hw5.symm)
      go_round
      case rel => exact ⟨k + 1, s, t, _, _, by omega, by go_num, rfl, WS, WT, LX2, LY2⟩
      case measure => simp [intOf]; omega
    · obtain rfl : k = M := by omega
      obtain ⟨q, q1, q2⟩ := quo_step WA.out LX.out hM hM2 (by omega)
      obtain ⟨r, r1, r2⟩ := quo_step WB.out LY.out hM hM2 (by omega)
      have Q1 := r32 q1
      have R1 := r32 r1
      have QI := rIntI (k : Int)
      have Q2 := Lib.hid q2
      have R2 := Lib.hid r2
      clear q1 r1 q2 r2
      generalize floatOfInt .f32 (k : Int) = fk at *
      go_wp2
      go_ret
      exact ⟨q, r, rfl, rfl, Q2.out, R2.out⟩
theorem root_step {a : Nat} (ha : Btw 50 a) : ∃ r, (∀ w : World, Calls Try.prog 22 #[.float .f32 a] w fun e w' => e = .returned (.float .f32 r) ∧ w' = w) ∧ Btw 8 r := by
  obtain ⟨h1, h2, h3⟩ := ha
  obtain ⟨x, x1, x2, x3, x4⟩ := fwide h1
  have e50 : ((50 : Int) : Rat) ≤ top := by decide +kernel
  obtain ⟨s, s1, s2⟩ := fsqrt x2 (by rw [x4]; exact h2) (by rw [x4]; grind)
  have r8 := rep_nat .f64 8 (by decide)
  have e8 : ((50 : Int) : Rat) ≤ ((8 : Int) : Rat) * ((8 : Int) : Rat) := by decide +kernel
  have l8 := s2.le _ r8 (by decide) (by rw [x4]; grind)
  have n8 := s2.nonneg
  have t8 : ((8 : Int) : Rat) ≤ top := by decide +kernel
  have t0 : (-top : Rat) ≤ 0 := by decide +kernel
  obtain ⟨r, r1, r2⟩ := fnarrow s2.fin (by show val _ s ≤ _; grind) (by show _ ≤ val _ s; grind)
  have S1 := Lib.hid (fun w => sqrt_w w s1)
  have k1 := rWide x1
  have k2 := rNarrow r1
  have hr : Btw 8 r := ⟨r2.fin, by
    have := r2.ge_int 0 (by decide) (by rw [Rat.intCast_zero]; exact n8)
    rwa [Rat.intCast_zero] at this, r2.le_int 8 (by decide) l8⟩
  have HR := Lib.hid hr
  refine ⟨r, fun w => ?_, hr⟩
  clear h1 h2 h3 x1 x2 x3 x4 e50 s1 s2 r8 e8 l8 n8 t8 t0 r1 r2 hr
  go_enter Try.func22, Try.ntmps22
  go_wp2_with fail
  refine (S1.out _).mono ?_
  rintro e w1 ⟨rfl, rfl⟩
  go_wp2
  go_ret
  exact ⟨rfl, rfl⟩
theorem sq_btw {x : Rat} (h : x ≤ ((5 : Int) : Rat)) (h2 : ((-5 : Int) : Rat) ≤ x) : 0 ≤ x * x ∧ x * x ≤ ((25 : Int) : Rat) := by
  have e5 : ((5 : Int) : Rat) = 5 := rfl
  have e5n : ((-5 : Int) : Rat) = -5 := by decide +kernel
  have e25 : ((25 : Int) : Rat) = 25 := rfl
  rw [e5] at h
  rw [e5n] at h2
  rw [e25]
  constructor
  · rcases (Rat.le_total : 0 ≤ x ∨ x ≤ 0) with c | c
    · exact Rat.mul_nonneg c c
    · have := Rat.mul_nonneg (show 0 ≤ -x by grind) (show 0 ≤ -x by grind)
      grind
  · have := Rat.mul_nonneg (show 0 ≤ 5 - x by grind) (show 0 ≤ 5 + x by grind)
    grind
theorem pow_step {p1 p2 a b X Y x y : Nat} (hp : Wn (x : Int) p1) (hq : Wn (y : Int) p2) (hx : x ≤ X) (hy : y ≤ Y) (hX : X ≤ 5) (hY : Y ≤ 5) (ha : Btw (X : Int) a) (hb : Btw (Y : Int) b) :
    ∃ u v r, (∀ w : World, Calls Try.prog 21 #[.complex .f32 p1 p2, .complex .f32 a b] w fun e w' => e = .returned (.complex .f32 u v) ∧ w' = w) ∧ (∀ w : World, Calls Try.prog 20 #[.complex .f32 u v] w fun e w' => e = .returned (.float .f32 r) ∧ w' = w) ∧ Btw 50 r := by
  have x5 := cast_le (show (x : Int) ≤ 5 by omega)
  have y5 := cast_le (show (y : Int) ≤ 5 by omega)
  have x0 := cast_le (show (0 : Int) ≤ (x : Int) by omega)
  have y0 := cast_le (show (0 : Int) ≤ (y : Int) by omega)
  have X5 := cast_le (show (X : Int) ≤ 5 by omega)
  have Y5 := cast_le (show (Y : Int) ≤ 5 by omega)
  have e0 : ((0 : Int) : Rat) = 0 := rfl
  have em5 : ((-5 : Int) : Rat) = -((5 : Int) : Rat) := by decide +kernel
  obtain ⟨a1, a2, a3⟩ := ha
  obtain ⟨b1, b2, b3⟩ := hb
  obtain ⟨q1, q2⟩ := hp
  obtain ⟨r1, r2⟩ := hq
  have dx1 : Num.fv .f32 p1 - Num.fv .f32 a ≤ ((5 : Int) : Rat) := by rw [q2]; grind
  have dx2 : ((-5 : Int) : Rat) ≤ Num.fv .f32 p1 - Num.fv .f32 a := by rw [q2, em5]; grind
  have dy1 : Num.fv .f32 p2 - Num.fv .f32 b ≤ ((5 : Int) : Rat) := by rw [r2]; grind
  have dy2 : ((-5 : Int) : Rat) ≤ Num.fv .f32 p2 - Num.fv .f32 b := by rw [r2, em5]; grind
  have t5 : ((5 : Int) : Rat) ≤ top := by decide +kernel
  have t5n : (-top : Rat) ≤ ((-5 : Int) : Rat) := by decide +kernel
  obtain ⟨u, v, C, f1, f2⟩ := subtract_num q1 r1 a1 b1 ⟨by grind, by grind⟩ ⟨by grind, by grind⟩
  have u1 := f1.le_int 5 (by decide) dx1
  have u2 := f1.ge_int (-5) (by decide) dx2
  have v1 := f2.le_int 5 (by decide) dy1
  have v2 := f2.ge_int (-5) (by decide) dy2
  have m5 : ((5 : Int) : Rat) ≤ mid := by decide +kernel
  obtain ⟨r, D, g1⟩ := powerOf_num f1.fin f2.fin ⟨by grind, by grind⟩ ⟨by grind, by grind⟩
  have su := sq_btw u1 u2
  have sv := sq_btw v1 v2
  have e50 : ((50 : Int) : Rat) = ((25 : Int) : Rat) + ((25 : Int) : Rat) := by decide +kernel
  refine ⟨u, v, r, C, D, g1.fin, ?_, g1.le_int 50 (by decide) (by rw [e50]; grind)⟩
  have := g1.ge_int 0 (by decide) (by rw [e0]; grind)
  rwa [e0] at this
/-- One more is added. -/
theorem acc_step {t p k : Nat} (ht : Btw ((50 * k : Nat) : Int) t) (hp : Btw 50 p) (hk : k ≤ 1000) : ∃ s, floatBits .add .f32 t p = some s ∧ Btw ((50 * (k + 1) : Nat) : Int) s := by
  obtain ⟨t1, t2, t3⟩ := ht
  obtain ⟨p1, p2, p3⟩ := hp
  have e : ((50 * (k + 1) : Nat) : Int) = ((50 * k : Nat) : Int) + 50 := by rw [Nat.mul_succ]; simp
  have e2 : (((50 * (k + 1) : Nat) : Int) : Rat) = (((50 * k : Nat) : Int) : Rat) + ((50 : Int) : Rat) := by rw [e, Rat.intCast_add]
  have hT := int_top (z := ((50 * (k + 1) : Nat) : Int)) (by omega)
  have t0 : (-top : Rat) ≤ 0 := by decide +kernel
  obtain ⟨s, s1, s2⟩ := fadd t1 p1 (by rw [e2] at hT; grind) (by grind)
  refine ⟨s, s1, s2.fin, ?_, s2.le_int _ (by omega) (by rw [e2]; grind)⟩
  have := s2.ge_int 0 (by decide) (by rw [Rat.intCast_zero]; grind)
  rwa [Rat.intCast_zero] at this
/-- A quotient by a count. -/
theorem quo_acc {a M : Nat} (ha : Btw ((50 * M : Nat) : Int) a) (hM : 1 ≤ M) (hM2 : M ≤ 256) : ∃ q, floatBits .quo .f32 a (floatOfInt .f32 (M : Int)) = some q ∧ Btw 50 q := by
  obtain ⟨f1, f2, _⟩ := fint .f32 (M : Int) (by omega)
  have m0 : (0 : Rat) < (((M : Nat) : Int) : Rat) := Rat.intCast_lt_intCast.2 (show (0 : Int) < (M : Int) by omega)
  obtain ⟨a1, a2, a3⟩ := ha
  have e : Num.fv .f32 a / (((M : Nat) : Int) : Rat) * (((M : Nat) : Int) : Rat) = Num.fv .f32 a := by grind
  have em : (((50 * M : Nat) : Int) : Rat) = ((50 : Int) : Rat) * (((M : Nat) : Int) : Rat) := by rw [← Rat.intCast_mul]; congr 1
  have hq0 : 0 ≤ Num.fv .f32 a / Num.fv .f32 (floatOfInt .f32 (M : Int)) := by rw [f2]; exact rat_cancel m0 (by grind)
  have hq1 : Num.fv .f32 a / Num.fv .f32 (floatOfInt .f32 (M : Int)) ≤ ((50 : Int) : Rat) := by rw [f2]; exact rat_cancel m0 (by grind)
  have hT := int_top (z := 50) (by decide)
  have t0 : (-top : Rat) ≤ 0 := by decide +kernel
  obtain ⟨q, q1, q2⟩ := fdiv a1 f1 (by rw [f2]; grind) (by grind) (by grind)
  refine ⟨q, q1, q2.fin, ?_, q2.le_int 50 (by decide) hq1⟩
  have := q2.ge_int 0 (by decide) (by rw [Rat.intCast_zero]; exact hq0)
  rwa [Rat.intCast_zero] at this
set_option maxRecDepth 100000 in
set_option maxHeartbeats 2000000 in
theorem MiddleOf_ok (W H N : Nat) (A : Option Addr) (c : Nat) (cs : List Bool) (w : World) (hW : 1 ≤ W) (hW' : W ≤ 6) (hH : 1 ≤ H) (hH' : H ≤ 6) (hl : cs.length = N) (hP : W * H = N)
    (hA : Rd w w.heap.size 1 A N (cs.map bv)) :
    Calls Try.prog 7 #[fieldV W H A N c] w fun e w' => ∃ a b r, e = .returned (.tuple #[.complex .f32 a b, .float .f32 r, .bool (decide (0 < (fulls cs N).length))]) ∧ Btw ((W - 1 : Nat) : Int) a ∧ Btw ((H - 1 : Nat) : Int) b ∧ Btw 8 r ∧ Below w.heap.size w w' := by
  have hN : N ≤ 36 := by have := Nat.mul_le_mul hW' hH'; omega
  obtain ⟨v, ev⟩ : ∃ v, v = w.alloc (.cells #[.int .i64 (W : Int), .int .i64 (H : Int), .slice A N c] 26) := ⟨_, rfl⟩
  have K0 : Blk v w.heap.size 26 #[.int .i64 (W : Int), .int .i64 (H : Int), .slice A N c] := by rw [ev]; exact Blk.new _ _ _
  have V0 : Hid (Below w.heap.size w v) := by rw [ev]; exact (Below.refl _ _).alloc (Nat.le_refl _) _
  have VF := ValidField_any (W : Int) (H : Int) A N c v
  rw [valid_wh hW (by omega) hH (by omega) hP] at VF
  have VFH := Lib.hid VF
  have b0 : v.cell? ⟨w.heap.size, 0, none⟩ = some (.int .i64 (W : Int)) := K0.cell 0
  have b1' : v.cell? ⟨w.heap.size, 1, none⟩ = some (.int .i64 (H : Int)) := K0.cell 1
  have b2 : v.cell? ⟨w.heap.size, 2, none⟩ = some (.slice A N c) := K0.cell 2
  have KV := Lib.hid K0
  have HA := Lib.hid hA
  have HL := Lib.hid hl
  have EV := Lib.hid ev
  have HPT : Hid (∀ p ∈ plc cs W N, p.1 ≤ W - 1 ∧ p.2 ≤ H - 1) := Lib.hid fun p hp => by have := plc_lt hW hP p hp; omega
  have PC := fun w' hA' => places_ok W H N A c cs w' hW (by omega) hH (by omega) hl hP hA'
  have HPL := Lib.hid (plc_length cs W N)
  have HFL := Lib.hid (fulls_le cs N)
  rw [ev] at b0 b1' b2
  unfold fieldV at VFH PC
  have PCH := Lib.hid PC
  unfold fieldV
  clear VF K0 hA hl ev hP PC
  go_enter Try.func7, Try.ntmps7
  go_wp2_with fail
  rw [← EV.out]
  refine VFH.out.mono ?_
  rintro e w1 ⟨rfl, hb⟩
  have K1 := Lib.hid (KV.out.below hb KV.out.lt)
  have V1 := Lib.hid (V0.out.trans (hb.mono V0.out.size))
  have c0 := K1.out.cell 0
  have c1 := K1.out.cell 1
  have c2 := K1.out.cell 2
  clear hb b0 b1' b2 VFH
  go_wp2_with fail
  refine (PCH.out _ ((HA.out.below V1.out).more V1.out.size)).mono ?_
  rintro e w2 ⟨g, c', rfl, ho2, hb2⟩
  have V2 := Lib.hid (V1.out.trans (hb2.mono V1.out.size))
  have O2 := Lib.hid ho2
  clear ho2 hb2 c0 c1 c2
  rw [HPL.out] at O2 ⊢
  obtain ⟨M, hM⟩ : ∃ M, (fulls cs N).length = M := ⟨_, rfl⟩
  have HM := Lib.hid hM
  rw [hM] at HFL HPL O2 ⊢
  have hMN := HFL.out
  clear hM
  by_cases h0 : M = 0
  · subst h0
    go_wp2
    go_ret3
    have z0 : Btw ((W - 1 : Nat) : Int) 0 := ⟨c0.1, by rw [c0.2]; exact Rat.le_refl, by rw [c0.2]; exact cast_le (show (0 : Int) ≤ _ by omega)⟩
    have z1 : Btw ((H - 1 : Nat) : Int) 0 := ⟨c0.1, by rw [c0.2]; exact Rat.le_refl, by rw [c0.2]; exact cast_le (show (0 : Int) ≤ _ by omega)⟩
    have z2 : Btw 8 0 := ⟨c0.1, by rw [c0.2]; exact Rat.le_refl, by rw [c0.2]; decide +kernel⟩
    rw [HM.out]
    exact ⟨0, 0, 0, rfl, z0, z1, z2, V2.out⟩
  · have hM1 : 1 ≤ M := by omega
    have hMe : ((M : Int) == 0) = false := by simp; omega
    have R2 : Hid (Rd w2 w2.heap.size 1 (some ⟨g, 0, none⟩) M ((plc cs W N).map icx)) := Lib.hid (Rd.own O2.out)
    have MC := Lib.hid (mean_ok (plc cs W N) (some ⟨g, 0, none⟩) M c' (W - 1) (H - 1) w2 HPL.out hM1 (by omega) (by omega) (by omega) HPT.out R2.out)
    go_wp2_with fail
    refine MC.out.mono ?_
    rintro e w3 ⟨a, b, rfl, hw3, BA, BB⟩
    obtain rfl := hw3.symm
    have HBA := Lib.hid BA
    have HBB := Lib.hid BB
    clear BA BB MC
    go_wp2
    go_loop [7, 22] (fun ss si => ∃ k t : Nat, k ≤ M ∧ si = .int .i64 (k : Int) ∧ ss = .float .f32 t ∧ Hid (Btw ((50 * k : Nat) : Int) t)) (fun _ i => M - (intOf i).toNat)
    case atStart => exact ⟨0, 0, Nat.zero_le _, rfl, rfl, Lib.hid ⟨c0.1, by rw [c0.2]; exact Rat.le_refl, by rw [c0.2]; exact Rat.le_refl⟩⟩
    case round =>
      obtain ⟨k, t, hk, rfl, rfl, HT⟩ := hrel
      by_cases hlt : k < M
      · obtain ⟨bl, off, hbo, hbb, hc⟩ := R2.out.2 (by omega)
        obtain ⟨rfl, rfl⟩ : g = bl ∧ 0 = off := by injection hbo with e; injection e with e1 e2; exact ⟨e1, e2⟩
        have cP := hc k _ (icx_get HPL.out hlt)
        rw [Nat.zero_add] at cP
        have hp := HPT.out _ (plc_mem HPL.out hlt)
        generalize (plc cs W N).getD k (0, 0) = p at *
        obtain ⟨u, v, r, SC, PW, br⟩ := pow_step (wn_iw (n := p.1) (by omega)) (wn_iw (n := p.2) (by omega)) hp.1 hp.2 (by omega) (by omega) HBA.out HBB.out
        obtain ⟨s, s1, s2⟩ := acc_step HT.out br (by omega)
        have SCH := Lib.hid SC
        have PWH := Lib.hid PW
        have Q := r32 s1
        have HS := Lib.hid s2
        have hkI : (k : Int) < (M : Int) := by omega
        clear SC PW br s1 s2 HT hc hbo
        generalize iw p.1 = p1 at *
        generalize iw p.2 = p2 at *
        go_wp2_with (first
          | (go_at_call 21; refine (SCH.out _).mono ?_; rintro e w5 ⟨rfl, hw5⟩; obtain rfl := hw5.symm)
          | (go_at_call 20; refine (PWH.out _).mono ?_; rintro e w5 ⟨rfl, hw5⟩; obtain rfl := hw5.symm))
        go_round
        case rel => exact ⟨k + 1, s, by omega, by go_num, rfl, HS⟩
        case measure => simp [intOf]; omega
      · obtain rfl : k = M := by omega
        obtain ⟨q, q1, q2⟩ := quo_acc HT.out hM1 (by omega)
        obtain ⟨r, RC, r2⟩ := root_step q2
        have Q1 := r32 q1
        have QI := rIntI (k : Int)
        have RCH := Lib.hid RC
        have HR := Lib.hid r2
        clear q1 q2 RC r2 HT
        generalize floatOfInt .f32 (k : Int) = fk at *
        go_wp2_with (go_at_call 22; refine (RCH.out _).mono ?_; rintro e w5 ⟨rfl, hw5⟩; obtain rfl := hw5.symm)
        go_ret3
        have hd : decide (0 < k) = true := by simp; omega
        rw [HM.out, hd]
        exact ⟨a, b, r, rfl, HBA.out, HBB.out, HR.out, V2.out⟩
end Go.Proofs.Ytejmpijihmmajaa
