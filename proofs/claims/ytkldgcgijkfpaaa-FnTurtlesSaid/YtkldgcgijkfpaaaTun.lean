/- Plain law: areas of loops of points, and of those that are turned and doubled. Conditions: ways of at most 16 moves. -/
import Derived.Test.YtkldgcgijkfpaaaTum
namespace Go.Proofs.Ytkldgcgijkfpaaa
open Go.RowKit
open Num Quick

def crs (f : Nat → Nat × Nat) (i j : Nat) : Rat := Num.fv .f32 (f i).1 * Num.fv .f32 (f j).2 - Num.fv .f32 (f i).2 * Num.fv .f32 (f j).1
def arT (f : Nat → Nat × Nat) : Nat → Rat
  | 0 => 0
  | k + 1 => arT f k + crs f k (k + 1)
/-- Bounds, worked out number by number. -/
def bL (A : Rat) (k : Nat) : Rat := A * (k : Rat) + 1 / 1000000000
def bP (x y : Rat) : Rat := x * y * rho + tinr
def bE (x y c : Rat) : Rat := 2 * bP x y + ((c + 2 * bP x y) * rho + tinr)
def bA (A : Rat) : Nat → Rat
  | 0 => 0
  | k + 1 => bA A k + bL A k * A
def bS (B al e : Rat) : Rat := al + e + ((B + al + e) * rho + tinr)
def bT (A : Rat) : Nat → Rat
  | 0 => 0
  | k + 1 => bS (bA A (k + 1)) (bT A k) (bE (bL A k) (bL A (k + 1)) (bL A k * A))
def bF (A : Rat) (m : Nat) : Rat := bS (bA A m) (bT A m) (bE (bL A m) (bL A 0) (bL A m * bL A 0) + bL A m * bL A 0)
def bR (A : Rat) (m : Nat) : Rat := bF A m / 2 + ((bA A m + bF A m) / 2 * rho + tinr)
theorem side_near {a b : Nat × Nat} {x y c : Rat} (a1 : Fl .f32 a.1) (a2 : Fl .f32 a.2) (b1 : Fl .f32 b.1) (b2 : Fl .f32 b.2) (La : Le2 (Num.fv .f32 a.1) (Num.fv .f32 a.2) x) (Lb : Le2 (Num.fv .f32 b.1) (Num.fv .f32 b.2) y) (hx : x ≤ 1000) (hy : y ≤ 1000)
    (hc : InR (Num.fv .f32 a.1 * Num.fv .f32 b.2 - Num.fv .f32 a.2 * Num.fv .f32 b.1) c) (hc2 : c ≤ 100000) :
    ∃ p q d, floatBits .mul .f32 a.1 b.2 = some p ∧ floatBits .mul .f32 a.2 b.1 = some q ∧ floatBits .sub .f32 p q = some d ∧ Fl .f32 d ∧ InR (Num.fv .f32 d - (Num.fv .f32 a.1 * Num.fv .f32 b.2 - Num.fv .f32 a.2 * Num.fv .f32 b.1)) (bE x y c) := by
  have h1 := prod_in La.fst Lb.snd La.nn
  have h2 := prod_in La.snd Lb.fst La.nn
  have hxy : x * y ≤ 1000000 := by
    have m1 := Rat.mul_le_mul_of_nonneg_right hx Lb.nn
    have m2 := Rat.mul_le_mul_of_nonneg_left hy (show (0 : Rat) ≤ 1000 by decide)
    grind
  have hP : bP x y ≤ 1 := by
    unfold bP
    have m := Rat.mul_le_mul_of_nonneg_right hxy rho_nn
    have k : (1000000 * rho + tinr : Rat) ≤ 1 := by decide +kernel
    grind
  have t1 := fl_tops (in_le h1 hxy)
  have t2 := fl_tops (in_le h2 hxy)
  obtain ⟨p, p1, p2'⟩ := fmul a1 b2 t1.1 t1.2
  obtain ⟨q, q1, q2⟩ := fmul a2 b1 t2.1 t2.2
  have e1' := rel32 p2' h1 (by grind)
  have e2' := rel32 q2 h2 (by grind)
  generalize Num.fv .f32 a.1 * Num.fv .f32 b.2 = V at *
  generalize Num.fv .f32 a.2 * Num.fv .f32 b.1 = W at *
  have e1' : InR (Num.fv .f32 p - V) (bP x y) := e1'
  have e2' : InR (Num.fv .f32 q - W) (bP x y) := e2'
  have hpq : InR (Num.fv .f32 p - Num.fv .f32 q) (c + 2 * bP x y) := by
    obtain ⟨u1, u2⟩ := e1'
    obtain ⟨u3, u4⟩ := e2'
    obtain ⟨u5, u6⟩ := hc
    unfold InR
    generalize bP x y = P at *
    clear t1 t2 h1 h2 p2' q2
    constructor <;> grind
  have t3 := fl_tops (in_le hpq (show c + 2 * bP x y ≤ 1000000 by grind))
  obtain ⟨d, d1, d2⟩ := fsub p2'.fin q2.fin t3.1 t3.2
  have e3 := rel32 d2 hpq (by grind)
  refine ⟨p, q, d, p1, q1, d1, d2.fin, ?_⟩
  unfold bE
  obtain ⟨u1, u2⟩ := e1'
  obtain ⟨u3, u4⟩ := e2'
  obtain ⟨u5, u6⟩ := e3
  generalize (c + 2 * bP x y) * rho + tinr = R at *
  generalize bP x y = P at *
  generalize Num.fv .f32 p = p' at *
  generalize Num.fv .f32 q = q' at *
  generalize Num.fv .f32 d = d' at *
  clear t1 t2 t3 h1 h2 p2' q2 d2 hpq hP
  unfold InR
  constructor <;> grind
/-- A sum's next float. -/
theorem add_near {s d : Nat} {T C B al e : Rat} (fs : Fl .f32 s) (fd : Fl .f32 d) (hs : InR (Num.fv .f32 s - T) al) (hd : InR (Num.fv .f32 d - C) e) (hB : InR (T + C) B) (hb : B + al + e ≤ 1000000) :
    ∃ t, floatBits .add .f32 s d = some t ∧ Fl .f32 t ∧ InR (Num.fv .f32 t - (T + C)) (bS B al e) := by
  have h : InR (Num.fv .f32 s + Num.fv .f32 d) (B + al + e) := by
    obtain ⟨u1, u2⟩ := hs
    obtain ⟨u3, u4⟩ := hd
    obtain ⟨u5, u6⟩ := hB
    unfold InR
    constructor <;> grind
  have t := fl_tops (in_le h hb)
  obtain ⟨r, r1, r2⟩ := fadd fs fd t.1 t.2
  have e3 := rel32 r2 h (by grind)
  refine ⟨r, r1, r2.fin, ?_⟩
  unfold bS
  obtain ⟨u1, u2⟩ := hs
  obtain ⟨u3, u4⟩ := hd
  obtain ⟨u5, u6⟩ := e3
  generalize (B + al + e) * rho + tinr = R at *
  clear t r2 h hb hB
  unfold InR
  constructor <;> grind
/-- Points that lie within a cone, step by step. -/
structure Cone (f : Nat → Nat × Nat) (A : Rat) (m : Nat) : Prop where
  fin : ∀ k, k ≤ m → Fl .f32 (f k).1 ∧ Fl .f32 (f k).2
  far : ∀ k, k ≤ m → Le2 (Num.fv .f32 (f k).1) (Num.fv .f32 (f k).2) (bL A k)
  step : ∀ k, k < m → Le2 (Num.fv .f32 (f (k + 1)).1 - Num.fv .f32 (f k).1) (Num.fv .f32 (f (k + 1)).2 - Num.fv .f32 (f k).2) A
theorem Cone.crs {f : Nat → Nat × Nat} {A : Rat} {m : Nat} (h : Cone f A m) {k : Nat} (hk : k < m) : InR (crs f k (k + 1)) (bL A k * A) := by
  have c := (h.far k (by omega)).cross (h.step k hk)
  unfold Proofs.Ytkldgcgijkfpaaa.crs
  rw [show Num.fv .f32 (f k).1 * Num.fv .f32 (f (k + 1)).2 - Num.fv .f32 (f k).2 * Num.fv .f32 (f (k + 1)).1 = Num.fv .f32 (f k).1 * (Num.fv .f32 (f (k + 1)).2 - Num.fv .f32 (f k).2) - Num.fv .f32 (f k).2 * (Num.fv .f32 (f (k + 1)).1 - Num.fv .f32 (f k).1) by grind]
  exact c
theorem Cone.arT {f : Nat → Nat × Nat} {A : Rat} {m : Nat} (h : Cone f A m) : ∀ k, k ≤ m → InR (arT f k) (bA A k)
  | 0, _ => by
    show InR 0 0
    unfold InR
    constructor <;> decide
  | k + 1, hk => in_add (Cone.arT h k (by omega)) (h.crs (by omega))
/-- The sizes that the bounds must have, looked at one by one. -/
def szOk (A : Rat) (k : Nat) : Bool := decide (bL A k ≤ 1000) && decide (bL A k * A ≤ 100000) && decide (bL A k * bL A 0 ≤ 100000) && decide (bA A (k + 1) + bT A k + bE (bL A k) (bL A (k + 1)) (bL A k * A) ≤ 1000000) && decide (bA A k + bT A k + (bE (bL A k) (bL A 0) (bL A k * bL A 0) + bL A k * bL A 0) ≤ 1000000) && decide ((bA A k + bF A k) / 2 ≤ 1000000)
def smA (sd : Nat → Nat) : Nat → Nat
  | 0 => 0
  | k + 1 => (floatBits .add .f32 (smA sd k) (sd k)).getD 0
theorem chalfT : Fl .f32 1056964608 ∧ Num.fv .f32 1056964608 = 1 / 2 := by
  refine ⟨?_, ?_⟩
  · show (1056964608 : Nat) % FloatKind.f32.format.signWeight < FloatKind.f32.format.infRung
    decide +kernel
  · unfold Num.fv val rv p2
    decide +kernel
theorem area_ex {f : Nat → Nat × Nat} {A : Rat} {m : Nat} (h : Cone f A m) (hs : ∀ k, k ≤ m + 1 → szOk A k = true) : ∃ sd sm r, ASum f (m + 1) sd sm r ∧ InR (Num.fv .f32 r - arT f m / 2) (bR A m) := by
  have sz : ∀ k, k ≤ m + 1 → bL A k ≤ 1000 ∧ bL A k * A ≤ 100000 ∧ bL A k * bL A 0 ≤ 100000 ∧ bA A (k + 1) + bT A k + bE (bL A k) (bL A (k + 1)) (bL A k * A) ≤ 1000000 ∧ bA A k + bT A k + (bE (bL A k) (bL A 0) (bL A k * bL A 0) + bL A k * bL A 0) ≤ 1000000 ∧ (bA A k + bF A k) / 2 ≤ 1000000 := fun k hk => by
    have := hs k hk
    unfold szOk at this
    simp only [Bool.and_eq_true, decide_eq_true_eq] at this
    obtain ⟨⟨⟨⟨⟨a, b⟩, c⟩, d⟩, e⟩, g⟩ := this
    exact ⟨a, b, c, d, e, g⟩
  have one : ∀ k, k < m + 1 → ∃ d, (∃ p q, floatBits .mul .f32 (f k).1 (f (nx (m + 1) k)).2 = some p ∧ floatBits .mul .f32 (f k).2 (f (nx (m + 1) k)).1 = some q ∧ floatBits .sub .f32 p q = some d) ∧ Fl .f32 d ∧ (k < m → InR (Num.fv .f32 d - crs f k (k + 1)) (bE (bL A k) (bL A (k + 1)) (bL A k * A))) ∧ (k = m → InR (Num.fv .f32 d - 0) (bE (bL A m) (bL A 0) (bL A m * bL A 0) + bL A m * bL A 0)) := fun k hk => by
    obtain ⟨z1, z2, z3, _⟩ := sz k (by omega)
    have fk := h.fin k (by omega)
    have Lk := h.far k (by omega)
    by_cases c : k < m
    · have en : nx (m + 1) k = k + 1 := by unfold nx; rw [if_pos (by omega)]
      rw [en]
      have fn := h.fin (k + 1) (by omega)
      obtain ⟨p, q, d, h1, h2, h3, h4, h5⟩ := side_near fk.1 fk.2 fn.1 fn.2 Lk (h.far (k + 1) (by omega)) z1 (sz (k + 1) (by omega)).1 (h.crs c) z2
      exact ⟨d, ⟨p, q, h1, h2, h3⟩, h4, fun _ => h5, fun e => by omega⟩
    · obtain rfl : k = m := by omega
      have en : nx (k + 1) k = 0 := by unfold nx; rw [if_neg (by omega)]
      rw [en]
      have fn := h.fin 0 (by omega)
      have L0 := h.far 0 (by omega)
      have cr := Lk.cross L0
      obtain ⟨p, q, d, h1, h2, h3, h4, h5⟩ := side_near fk.1 fk.2 fn.1 fn.2 Lk L0 z1 (sz 0 (by omega)).1 cr z3
      refine ⟨d, ⟨p, q, h1, h2, h3⟩, h4, fun e => absurd e (by omega), fun _ => ?_⟩
      have := in_add h5 cr
      rw [show Num.fv .f32 d - (Num.fv .f32 (f k).1 * Num.fv .f32 (f 0).2 - Num.fv .f32 (f k).2 * Num.fv .f32 (f 0).1) + (Num.fv .f32 (f k).1 * Num.fv .f32 (f 0).2 - Num.fv .f32 (f k).2 * Num.fv .f32 (f 0).1) = Num.fv .f32 d - 0 by grind] at this
      exact this
  obtain ⟨sd, hsd⟩ : ∃ sd : Nat → Nat, ∀ k, k < m + 1 → (∃ p q, floatBits .mul .f32 (f k).1 (f (nx (m + 1) k)).2 = some p ∧ floatBits .mul .f32 (f k).2 (f (nx (m + 1) k)).1 = some q ∧ floatBits .sub .f32 p q = some (sd k)) ∧ Fl .f32 (sd k) ∧ (k < m → InR (Num.fv .f32 (sd k) - Proofs.Ytkldgcgijkfpaaa.crs f k (k + 1)) (bE (bL A k) (bL A (k + 1)) (bL A k * A))) ∧ (k = m → InR (Num.fv .f32 (sd k) - 0) (bE (bL A m) (bL A 0) (bL A m * bL A 0) + bL A m * bL A 0)) := by
    refine ⟨fun k => if h : k < m + 1 then Classical.choose (one k h) else 0, fun k hk => ?_⟩
    have e : (if h : k < m + 1 then Classical.choose (one k h) else 0) = Classical.choose (one k hk) := dif_pos hk
    have := Classical.choose_spec (one k hk)
    rw [← e] at this
    exact this
  have key : ∀ k, k ≤ m → Fl .f32 (smA sd k) ∧ InR (Num.fv .f32 (smA sd k) - arT f k) (bT A k) ∧ (k < m → floatBits .add .f32 (smA sd k) (sd k) = some (smA sd (k + 1))) := by
    have st : ∀ k, k < m → Fl .f32 (smA sd k) → InR (Num.fv .f32 (smA sd k) - arT f k) (bT A k) → floatBits .add .f32 (smA sd k) (sd k) = some (smA sd (k + 1)) ∧ Fl .f32 (smA sd (k + 1)) ∧ InR (Num.fv .f32 (smA sd (k + 1)) - arT f (k + 1)) (bT A (k + 1)) := fun k hk f1 f2 => by
      obtain ⟨_, g1, g2, _⟩ := hsd k (by omega)
      obtain ⟨t, t1, t2, t3⟩ := add_near f1 g1 f2 (g2 hk) (h.arT (k + 1) (by omega)) (sz k (by omega)).2.2.2.1
      have e : smA sd (k + 1) = t := by
        show (floatBits .add .f32 (smA sd k) (sd k)).getD 0 = t
        rw [t1]
        rfl
      rw [e]
      exact ⟨t1, t2, t3⟩
    intro k
    induction k with
    | zero =>
      intro _
      have z : Fl .f32 (smA sd 0) := c0.1
      have z2 : InR (Num.fv .f32 (smA sd 0) - Proofs.Ytkldgcgijkfpaaa.arT f 0) (bT A 0) := by
        show InR (Num.fv .f32 0 - 0) 0
        rw [c0.2]
        unfold InR
        constructor <;> decide +kernel
      exact ⟨z, z2, fun hk => (st 0 hk z z2).1⟩
    | succ k ih =>
      intro hk
      obtain ⟨i1, i2, _⟩ := ih (by omega)
      obtain ⟨_, s2, s3⟩ := st k (by omega) i1 i2
      exact ⟨s2, s3, fun hk => (st (k + 1) hk s2 s3).1⟩
  obtain ⟨k1, k2, _⟩ := key m (Nat.le_refl _)
  obtain ⟨_, g1, _, g3⟩ := hsd m (by omega)
  obtain ⟨t, t1, t2, t3⟩ := add_near (B := bA A m) k1 g1 k2 (g3 rfl) (by rw [show Proofs.Ytkldgcgijkfpaaa.arT f m + 0 = Proofs.Ytkldgcgijkfpaaa.arT f m by grind]; exact h.arT m (Nat.le_refl _)) (sz m (by omega)).2.2.2.2.1
  rw [show Proofs.Ytkldgcgijkfpaaa.arT f m + 0 = Proofs.Ytkldgcgijkfpaaa.arT f m by grind] at t3
  have t3 : InR (Num.fv .f32 t - Proofs.Ytkldgcgijkfpaaa.arT f m) (bF A m) := t3
  have e : smA sd (m + 1) = t := by
    show (floatBits .add .f32 (smA sd m) (sd m)).getD 0 = t
    rw [t1]
    rfl
  have hh : InR (1 / 2 * Num.fv .f32 t) ((bA A m + bF A m) / 2) := by
    have a := h.arT m (Nat.le_refl _)
    obtain ⟨u1, u2⟩ := a
    obtain ⟨u3, u4⟩ := t3
    unfold InR
    generalize bA A m = B at *
    generalize bF A m = F at *
    constructor <;> grind
  have ht := fl_tops (in_le hh (sz m (by omega)).2.2.2.2.2)
  obtain ⟨r, r1, r2⟩ := fmul chalfT.1 t2 (by rw [chalfT.2]; exact ht.1) (by rw [chalfT.2]; exact ht.2)
  rw [chalfT.2] at r2
  have e3 := rel32 r2 hh (by have := (sz m (by omega)).2.2.2.2.2; grind)
  refine ⟨sd, smA sd, r, ⟨rfl, fun k hk => (hsd k hk).1, fun k hk => ?_, by rw [e]; exact r1, r2.fin⟩, ?_⟩
  · by_cases c : k < m
    · exact (key k (by omega)).2.2 c
    · obtain rfl : k = m := by omega
      rw [e]
      exact t1
  · unfold bR
    obtain ⟨u1, u2⟩ := e3
    obtain ⟨u3, u4⟩ := t3
    generalize (bA A m + bF A m) / 2 * rho + tinr = R at *
    generalize bF A m = F at *
    generalize Num.fv .f32 t = T at *
    generalize Num.fv .f32 r = Z at *
    generalize Proofs.Ytkldgcgijkfpaaa.arT f m = W at *
    clear hh ht r2 key hsd one sz
    unfold InR
    constructor <;> grind
/-- The turned ones' bounds. -/
abbrev Ab : Rat := 259 / 64
theorem sz_line : ∀ k, k < 18 → szOk Aa k = true := by decide +kernel
theorem sz_turned : ∀ k, k < 18 → szOk Ab k = true := by decide +kernel
end Go.Proofs.Ytkldgcgijkfpaaa
