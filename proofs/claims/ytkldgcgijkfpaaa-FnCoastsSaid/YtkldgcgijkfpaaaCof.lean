/- Plain law: broken lines are no shorter, straight ones as long, nearly. Conditions: points of eighths. -/
import Derived.Test.YtkldgcgijkfpaaaCoe
namespace Go.Proofs.Ytkldgcgijkfpaaa
open Go.RowKit
open Num Quick

theorem bro_tsum {P Q : Nat → Nat × Nat} {rough B n : Nat} (h : Bro P Q rough B n) (hB : 2 * B ≤ 16) (hP : ∀ i, i < n → Cb ((B : Nat) : Rat) (P i)) : ∀ k, k + 1 ≤ n → tsum P (k + 1) ≤ tsum Q (2 * k + 1) + (k : Rat) * (3 * eps)
  | 0, _ => by
    have e : ((0 : Nat) : Rat) = 0 := rfl
    rw [e]
    show (0 : Rat) ≤ 0 + 0 * (3 * eps)
    decide +kernel
  | k + 1, hk => by
    have ih := bro_tsum h hB hP k (by omega)
    have m16 : ((2 * B : Nat) : Rat) ≤ ((16 : Nat) : Rat) := Rat.natCast_le_natCast.2 hB
    have n16 : ((B : Nat) : Rat) ≤ ((16 : Nat) : Rat) := Rat.natCast_le_natCast.2 (by omega)
    have p0 := pcw_ok ((hP k (by omega)).mono n16) ((hP (k + 1) (by omega)).mono n16)
    have p1 := pcw_ok ((h.cb (2 * k) (by omega)).mono m16) ((h.cb (2 * k + 1) (by omega)).mono m16)
    have p2' := pcw_ok ((h.cb (2 * k + 1) (by omega)).mono m16) ((h.cb (2 * k + 2) (by omega)).mono m16)
    have e0 := h.even k (by omega)
    have e1 := h.even (k + 1) (by omega)
    rw [show 2 * (k + 1) = 2 * k + 2 by omega] at e1
    have L := p1.up.add p2'.up
    rw [e0, e1] at L
    have hl := p0.lo _ (by
      rw [show Num.fv .f32 (P (k + 1)).1 - Num.fv .f32 (P k).1 = Num.fv .f32 (Q (2 * k + 1)).1 - Num.fv .f32 (P k).1 + (Num.fv .f32 (P (k + 1)).1 - Num.fv .f32 (Q (2 * k + 1)).1) by grind, show Num.fv .f32 (P (k + 1)).2 - Num.fv .f32 (P k).2 = Num.fv .f32 (Q (2 * k + 1)).2 - Num.fv .f32 (P k).2 + (Num.fv .f32 (P (k + 1)).2 - Num.fv .f32 (Q (2 * k + 1)).2) by grind]
      exact L)
    have t1 : tsum P (k + 1 + 1) = tsum P (k + 1) + Num.fv .f32 (pcw (P k) (P (k + 1))) := rfl
    have t2 : tsum Q (2 * (k + 1) + 1) = tsum Q (2 * k + 1) + Num.fv .f32 (pcw (Q (2 * k)) (Q (2 * k + 1))) + Num.fv .f32 (pcw (Q (2 * k + 1)) (Q (2 * k + 2))) := rfl
    rw [t1, t2, e0, e1]
    have ek : ((k + 1 : Nat) : Rat) = (k : Rat) + 1 := by rw [← nat_add]; rfl
    rw [ek]
    generalize tsum P (k + 1) = a at *
    generalize tsum Q (2 * k + 1) = b at *
    generalize Num.fv .f32 (pcw (P k) (P (k + 1))) = c at *
    generalize Num.fv .f32 (pcw (P k) (Q (2 * k + 1))) = d at *
    generalize Num.fv .f32 (pcw (Q (2 * k + 1)) (P (k + 1))) = g at *
    clear L p0 p1 p2' t1 t2
    grind
/-- The point lies exactly in the middle. -/
def Mean (a b z : Nat × Nat) : Prop := Num.fv .f32 z.1 = (Num.fv .f32 a.1 + Num.fv .f32 b.1) / 2 ∧ Num.fv .f32 z.2 = (Num.fv .f32 a.2 + Num.fv .f32 b.2) / 2
theorem straight_tsum {P Q : Nat → Nat × Nat} {rough B n : Nat} (h : Bro P Q rough B n) (hB : 2 * B ≤ 16) (hP : ∀ i, i < n → Cb ((B : Nat) : Rat) (P i)) (hM : ∀ k, k + 1 < n → Mean (P k) (P (k + 1)) (Q (2 * k + 1))) : ∀ k, k + 1 ≤ n → tsum Q (2 * k + 1) ≤ tsum P (k + 1) + (k : Rat) * (3 * eps)
  | 0, _ => by
    have e : ((0 : Nat) : Rat) = 0 := rfl
    rw [e]
    show (0 : Rat) ≤ 0 + 0 * (3 * eps)
    decide +kernel
  | k + 1, hk => by
    have ih := straight_tsum h hB hP hM k (by omega)
    have m16 : ((2 * B : Nat) : Rat) ≤ ((16 : Nat) : Rat) := Rat.natCast_le_natCast.2 hB
    have n16 : ((B : Nat) : Rat) ≤ ((16 : Nat) : Rat) := Rat.natCast_le_natCast.2 (by omega)
    have p0 := pcw_ok ((hP k (by omega)).mono n16) ((hP (k + 1) (by omega)).mono n16)
    have p1 := pcw_ok ((h.cb (2 * k) (by omega)).mono m16) ((h.cb (2 * k + 1) (by omega)).mono m16)
    have p2' := pcw_ok ((h.cb (2 * k + 1) (by omega)).mono m16) ((h.cb (2 * k + 2) (by omega)).mono m16)
    have e0 := h.even k (by omega)
    have e1 := h.even (k + 1) (by omega)
    rw [show 2 * (k + 1) = 2 * k + 2 by omega] at e1
    obtain ⟨m1, m2⟩ := hM k (by omega)
    have L := p0.up.scale (show (0 : Rat) ≤ 1 / 2 by decide +kernel)
    have h1 := p1.lo _ (by
      rw [e0, show Num.fv .f32 (Q (2 * k + 1)).1 - Num.fv .f32 (P k).1 = 1 / 2 * (Num.fv .f32 (P (k + 1)).1 - Num.fv .f32 (P k).1) by rw [m1]; grind, show Num.fv .f32 (Q (2 * k + 1)).2 - Num.fv .f32 (P k).2 = 1 / 2 * (Num.fv .f32 (P (k + 1)).2 - Num.fv .f32 (P k).2) by rw [m2]; grind]
      exact L)
    have h2 := p2'.lo _ (by
      rw [e1, show Num.fv .f32 (P (k + 1)).1 - Num.fv .f32 (Q (2 * k + 1)).1 = 1 / 2 * (Num.fv .f32 (P (k + 1)).1 - Num.fv .f32 (P k).1) by rw [m1]; grind, show Num.fv .f32 (P (k + 1)).2 - Num.fv .f32 (Q (2 * k + 1)).2 = 1 / 2 * (Num.fv .f32 (P (k + 1)).2 - Num.fv .f32 (P k).2) by rw [m2]; grind]
      exact L)
    have t1 : tsum P (k + 1 + 1) = tsum P (k + 1) + Num.fv .f32 (pcw (P k) (P (k + 1))) := rfl
    have t2 : tsum Q (2 * (k + 1) + 1) = tsum Q (2 * k + 1) + Num.fv .f32 (pcw (Q (2 * k)) (Q (2 * k + 1))) + Num.fv .f32 (pcw (Q (2 * k + 1)) (Q (2 * k + 2))) := rfl
    rw [t1, t2]
    have ek : ((k + 1 : Nat) : Rat) = (k : Rat) + 1 := by rw [← nat_add]; rfl
    rw [ek]
    generalize tsum P (k + 1) = a at *
    generalize tsum Q (2 * k + 1) = b at *
    generalize Num.fv .f32 (pcw (P k) (P (k + 1))) = c at *
    generalize Num.fv .f32 (pcw (Q (2 * k)) (Q (2 * k + 1))) = d at *
    generalize Num.fv .f32 (pcw (Q (2 * k + 1)) (Q (2 * k + 2))) = g at *
    clear L p0 p1 p2' t1 t2 m1 m2
    grind
theorem zero_of {x : Nat} {v : Rat} (h : Num.FR .f32 v x) (hv : v = 0) : Num.fv .f32 x = 0 := by
  rw [hv] at h
  have a := h.le_int 0 (by decide) (by rw [Rat.intCast_zero]; exact Rat.le_refl)
  have b := h.ge_int 0 (by decide) (by rw [Rat.intCast_zero]; exact Rat.le_refl)
  rw [Rat.intCast_zero] at a b
  grind
theorem half_gn : Gn 1 1 1056964608 := ⟨chalf.1, by decide, by rw [chalf.2]; decide +kernel⟩
/-- One part of the middle: exact. -/
theorem mid_part {m k : Int} {s h t x : Nat} (hm : m.natAbs ≤ 16) (hk : k.natAbs ≤ 16) (es : floatBits .add .f32 (ew m) (ew k) = some s) (eh : floatBits .mul .f32 1056964608 s = some h) (ht : Fl .f32 t) (ht0 : Num.fv .f32 t = 0) (op : BinOp) (hop : op = .add ∨ op = .sub) (ex : floatBits op .f32 h t = some x) :
    Num.fv .f32 x = (Num.fv .f32 (ew m) + Num.fv .f32 (ew k)) / 2 := by
  have g1 := (ew_ok hm).2
  have g2 := (ew_ok hk).2
  obtain ⟨s', e1, g3⟩ := g1.add g2 (by omega) (by omega)
  obtain rfl : s' = s := Option.some.inj (e1.symm.trans es)
  obtain ⟨h', e2, g4⟩ := half_gn.mul g3 (by omega) (by omega)
  obtain rfl : h' = h := Option.some.inj (e2.symm.trans eh)
  have b := (frac_top (m := 1 * (m + k)) (1 + 3) (by omega))
  have v : Num.fv .f32 h' = (Num.fv .f32 (ew m) + Num.fv .f32 (ew k)) / 2 := by
    rw [g4.val, g1.val, g2.val]
    have e8 : ((2 ^ 3 : Nat) : Rat) = 8 := rfl
    have e16 : ((2 ^ (1 + 3) : Nat) : Rat) = 16 := rfl
    rw [e8, e16, Rat.intCast_mul, Rat.intCast_add]
    have e1 : ((1 : Int) : Rat) = 1 := rfl
    rw [e1]
    grind
  rw [← v]
  rw [← g4.val] at b
  rcases hop with rfl | rfl
  · obtain ⟨y, y1, y2⟩ := fadd g4.fin ht (by rw [ht0, Rat.add_zero]; exact b.1) (by rw [ht0, Rat.add_zero]; exact b.2)
    obtain rfl : y = x := Option.some.inj (y1.symm.trans ex)
    rw [ht0, Rat.add_zero] at y2
    exact y2.exact _ (rep_val _ g4.fin)
  · have e0 : Num.fv .f32 h' - Num.fv .f32 t = Num.fv .f32 h' := by rw [ht0]; grind
    obtain ⟨y, y1, y2⟩ := fsub g4.fin ht (by rw [e0]; exact b.1) (by rw [e0]; exact b.2)
    obtain rfl : y = x := Option.some.inj (y1.symm.trans ex)
    rw [e0] at y2
    exact y2.exact _ (rep_val _ g4.fin)
theorem ew_cb2 {x : Int} (hx : x.natAbs ≤ 16) : Fl .f32 (ew x) ∧ InR (Num.fv .f32 (ew x)) ((2 : Nat) : Rat) := by
  have g := (ew_ok hx).2
  refine ⟨g.fin, ?_⟩
  rw [g.val]
  have hp : ((2 ^ 3 : Nat) : Rat) = 8 := rfl
  have e2 : ((2 : Nat) : Rat) = 2 := rfl
  rw [hp, e2]
  have a : (-16 : Rat) ≤ (x : Rat) := by
    have : (((-16 : Int)) : Rat) ≤ (x : Rat) := Rat.intCast_le_intCast.2 (by omega)
    exact this
  have b : (x : Rat) ≤ (16 : Rat) := by
    have : (x : Rat) ≤ (((16 : Int)) : Rat) := Rat.intCast_le_intCast.2 (by omega)
    exact this
  unfold InR
  constructor <;> grind
theorem Ew.cb {z : Nat × Nat} (h : Ew z) : Cb ((2 : Nat) : Rat) z := by
  obtain ⟨x, y, hx, hy, rfl⟩ := h
  exact ⟨(ew_cb2 hx).1, (ew_cb2 hy).1, (ew_cb2 hx).2, (ew_cb2 hy).2⟩
theorem mid_mean {a b : Nat × Nat} {rough d : Nat} {z : Nat × Nat} (ha : Ew a) (hb : Ew b) (hr : Fl .f32 rough) (h0 : Num.fv .f32 rough = 0) (hd : Fl .f32 d) (hd2 : InR (Num.fv .f32 d) 1) (h : Mid a b rough d z) : Mean a b z := by
  have ca := ha.cb
  have cb := hb.cb
  obtain ⟨x, y, hx, hy, rfl⟩ := ha
  obtain ⟨x', y', hx', hy', rfl⟩ := hb
  obtain ⟨by_, w1, w2, s1, h1, t1, s2, h2, t2, eby, ew1, ew2, es1, eh1, et1, ex, es2, eh2, et2, ey⟩ := h
  simp only at ew1 ew2 es1 es2
  have t0 : (0 : Rat) ≤ top := by decide +kernel
  have mz : ∀ {p q r : Nat}, Fl .f32 p → Fl .f32 q → (Num.fv .f32 p = 0 ∨ Num.fv .f32 q = 0) → floatBits .mul .f32 p q = some r → Fl .f32 r ∧ Num.fv .f32 r = 0 := fun {p q r} fp fq h0 e => by
    have hz : Num.fv .f32 p * Num.fv .f32 q = 0 := by rcases h0 with h | h <;> rw [h] <;> grind
    obtain ⟨r', r1, r2⟩ := fmul fp fq (by rw [hz]; exact t0) (by rw [hz]; generalize top = T at t0; grind)
    obtain rfl : r' = r := Option.some.inj (r1.symm.trans e)
    exact ⟨r2.fin, zero_of r2 hz⟩
  obtain ⟨f1, f2⟩ := mz hd hr (.inr h0) eby
  have sw1 := in_sub cb.2.2.1 ca.2.2.1
  have sw2 := in_sub cb.2.2.2 ca.2.2.2
  rw [nat_add] at sw1 sw2
  obtain ⟨v1, q1, q2⟩ := fsub cb.1 ca.1 (small_top sw1 (by omega)).1 (small_top sw1 (by omega)).2
  obtain ⟨v2, q3, q4⟩ := fsub cb.2.1 ca.2.1 (small_top sw2 (by omega)).1 (small_top sw2 (by omega)).2
  obtain rfl : v1 = w1 := Option.some.inj (q1.symm.trans ew1)
  obtain rfl : v2 = w2 := Option.some.inj (q3.symm.trans ew2)
  obtain ⟨g1, g2⟩ := mz f1 q4.fin (.inl f2) et1
  obtain ⟨g3, g4⟩ := mz f1 q2.fin (.inl f2) et2
  exact ⟨mid_part hx hx' es1 eh1 g1 g2 .sub (.inr rfl) ex, mid_part hy hy' es2 eh2 g3 g4 .add (.inl rfl) ey⟩
/-- Gaps. -/
theorem gap_any {x y : Nat} (hx : Fl .f64 x) (hy : Fl .f64 y) (h : InR (Num.fv .f64 x - Num.fv .f64 y) (1 / 2048)) : ∃ r, (∀ w : World, Calls Try.prog 11 #[.float .f64 x, .float .f64 y] w fun e w' => e = .returned (.float .f64 r) ∧ w' = w) ∧ Fl .f64 r ∧ Num.fv .f64 r ≤ 1 / 2048 := by
  have t : (100 : Rat) ≤ top := by decide +kernel
  obtain ⟨T, eT⟩ : ∃ T : Rat, top = T := ⟨_, rfl⟩
  rw [eT] at t
  obtain ⟨d, d1, d2⟩ := fsub hx hy (by rw [eT]; unfold InR at *; grind) (by rw [eT]; unfold InR at *; grind)
  obtain ⟨e, e1, e2⟩ := fsub hy hx (by rw [eT]; unfold InR at *; grind) (by rw [eT]; unfold InR at *; grind)
  have hrep := rep_frac .f64 1 11 (by decide) (by decide)
  have ev : ((1 : Int) : Rat) / ((2 ^ 11 : Nat) : Rat) = 1 / 2048 := by decide +kernel
  rw [ev] at hrep
  have i1 := d2.le _ hrep (by unfold InR at *; grind)
  have i2 := e2.le _ hrep (by unfold InR at *; grind)
  obtain ⟨r, hr, _, _, hm⟩ := fmax_num d2.fin e2.fin
  have fr : Fl .f64 r := by rcases hr with rfl | rfl; exact d2.fin; exact e2.fin
  have lr : Num.fv .f64 r ≤ 1 / 2048 := by rcases hr with rfl | rfl; exact i1; exact i2
  refine ⟨r, fun w => ?_, fr, lr⟩
  have k1 := r64 d1
  have k2 := r64 e1
  clear hx hy h d2 e2 i1 i2 hr fr lr t eT d1 e1 hrep ev
  go_enter Try.func11, Try.ntmps11
  go_wp2
  go_ret
  exact ⟨rfl, rfl⟩
theorem c001d : Fl .f64 4562254508917369340 ∧ Num.fv .f64 4562254508917369340 ≤ 1 / 999 ∧ 1 / 1001 ≤ Num.fv .f64 4562254508917369340 := by
  refine ⟨?_, ?_, ?_⟩
  · show (4562254508917369340 : Nat) % FloatKind.f64.format.signWeight < FloatKind.f64.format.infRung
    decide +kernel
  · unfold Num.fv val rv p2
    decide +kernel
  · unfold Num.fv val rv p2
    decide +kernel
theorem oned : Fl .f64 4607182418800017408 ∧ Num.fv .f64 4607182418800017408 = 1 := by
  refine ⟨?_, ?_⟩
  · show (4607182418800017408 : Nat) % FloatKind.f64.format.signWeight < FloatKind.f64.format.infRung
    decide +kernel
  · unfold Num.fv val rv p2
    decide +kernel
/-- Straight coasts are as long, nearly. -/
theorem long_law {x y : Nat} (hx : Fl .f32 x) (hy : Fl .f32 y) (h0 : 0 ≤ Num.fv .f32 x) (h1 : Num.fv .f32 x ≤ 256) (h : InR (Num.fv .f32 x - Num.fv .f32 y) (1 / 2048)) : ∃ X Y o t g, qwide x = some X ∧ qwide y = some Y ∧ (∀ w : World, Calls Try.prog 11 #[.float .f64 X, .float .f64 Y] w fun e w' => e = .returned (.float .f64 g) ∧ w' = w) ∧
    floatBits .add .f64 4607182418800017408 X = some o ∧ floatBits .mul .f64 4562254508917369340 o = some t ∧ (FloatKind.f64.format.order g t == some .gt) = false := by
  obtain ⟨X, x1, x2, _, x4⟩ := fwide hx
  obtain ⟨Y, y1, y2, _, y4⟩ := fwide hy
  obtain ⟨g, g1, g2, g3⟩ := gap_any x2 y2 (by rw [x4, y4]; exact h)
  have t : (1000 : Rat) ≤ top := by decide +kernel
  obtain ⟨T, eT⟩ : ∃ T : Rat, top = T := ⟨_, rfl⟩
  rw [eT] at t
  have o1 := oned
  have c1 := c001d
  obtain ⟨o, o2, o3⟩ := fadd o1.1 x2 (by rw [eT, o1.2, x4]; grind) (by rw [eT, o1.2, x4]; grind)
  have e1 : ((1 : Int) : Rat) = 1 := rfl
  have e257 : ((257 : Int) : Rat) = 257 := rfl
  have l1 := o3.ge_int 1 (by decide) (by rw [e1, o1.2, x4]; grind)
  have l2 := o3.le_int 257 (by decide) (by rw [e257, o1.2, x4]; grind)
  rw [e1] at l1
  rw [e257] at l2
  obtain ⟨C, eC⟩ : ∃ C : Rat, Num.fv .f64 4562254508917369340 = C := ⟨_, rfl⟩
  obtain ⟨O, eO⟩ : ∃ O : Rat, Num.fv .f64 o = O := ⟨_, rfl⟩
  rw [eC] at c1
  rw [eO] at l1 l2
  have p1 : C * 1 ≤ C * O := Rat.mul_le_mul_of_nonneg_left l1 (by grind)
  have p2 : C * O ≤ C * 257 := Rat.mul_le_mul_of_nonneg_left l2 (by grind)
  obtain ⟨m, m1, m2⟩ := fmul c1.1 o3.fin (by rw [eT, eC, eO]; grind) (by rw [eT, eC, eO]; grind)
  rw [eC, eO] at m2
  have hrep := rep_frac .f64 1 11 (by decide) (by decide)
  have ev : ((1 : Int) : Rat) / ((2 ^ 11 : Nat) : Rat) = 1 / 2048 := by decide +kernel
  rw [ev] at hrep
  have lm := m2.ge _ hrep (by grind)
  exact ⟨X, Y, o, m, g, x1, y1, g1, o2, m1, (le_cmp g2 m2.fin (by grind)).2⟩
/-- Rough coasts are no shorter, nearly. -/
theorem rough_law {x y : Nat} (hx : Fl .f32 x) (hy : Fl .f32 y) (h0 : 0 ≤ Num.fv .f32 x) (h1 : Num.fv .f32 x ≤ 100) (h : Num.fv .f32 x ≤ Num.fv .f32 y + 1 / 2048) : ∃ X Y d, qwide x = some X ∧ qwide y = some Y ∧ floatBits .sub .f64 X 4562254508917369340 = some d ∧ (FloatKind.f64.format.order Y d == some .lt) = false := by
  obtain ⟨X, x1, x2, _, x4⟩ := fwide hx
  obtain ⟨Y, y1, y2, _, y4⟩ := fwide hy
  have t : (1000 : Rat) ≤ top := by decide +kernel
  obtain ⟨T, eT⟩ : ∃ T : Rat, top = T := ⟨_, rfl⟩
  rw [eT] at t
  have c1 := c001d
  obtain ⟨C, eC⟩ : ∃ C : Rat, Num.fv .f64 4562254508917369340 = C := ⟨_, rfl⟩
  rw [eC] at c1
  obtain ⟨d, d1, d2⟩ := fsub x2 c1.1 (by rw [eT, eC, x4]; grind) (by rw [eT, eC, x4]; grind)
  rw [eC, x4] at d2
  have p7 : p2 7 = 128 := by decide +kernel
  have pm : p2 (7 - 53) ≤ 1 / 1000000 := by decide +kernel
  have n := d2.near64 7 (by decide) (by decide) (by rw [p7]; grind) (by rw [p7]; grind)
  generalize p2 (7 - 53) = e at *
  refine ⟨X, Y, d, x1, y1, d1, not_lt_cmp y2 d2.fin ?_⟩
  rw [y4]
  have n1 := n.1
  grind
end Go.Proofs.Ytkldgcgijkfpaaa
