/- Plain law: how long lines of pieces are that all have nearly one length; lines moved and turned. Conditions: pieces of at most 5, at most 17 points. -/
import Derived.Test.YtkldgcgijkfpaaaTui
import Derived.Test.YtkldgcgijkfpaaaTuj
namespace Go.Proofs.Ytkldgcgijkfpaaa
open Go.RowKit
open Num Quick

/-- A pair of numbers has a length, nearly. -/
structure Near2 (x y R d : Rat) : Prop where
  up : Le2 x y (R + d)
  lo : ∀ A, Le2 x y A → R ≤ A + d
theorem Near2.shift {x y x' y' R d e : Rat} (h : Near2 x y R d) (h1 : InR (x' - x) e) (h2 : InR (y' - y) e) : Near2 x' y' R (d + 2 * e) where
  up := by
    have L := h.up.add (Le2.small h1 h2)
    rw [show x + (x' - x) = x' by grind, show y + (y' - y) = y' by grind] at L
    exact L.mono (by grind)
  lo := fun A hA => by
    have L := hA.add (Le2.small h1 h2).neg
    rw [show x' + -(x' - x) = x by grind, show y' + -(y' - y) = y by grind] at L
    have := h.lo _ L
    grind
theorem Mv.near {s : Rat} {p p' : Nat × Nat} (h : Mv s p p') (s0 : 0 ≤ s) (s2 : s ≤ 2) : Near2 (Num.fv .f32 p'.1 - Num.fv .f32 p.1) (Num.fv .f32 p'.2 - Num.fv .f32 p.2) s (1 / 60000) := ⟨h.up s0 s2, fun _ hA => h.lo s0 s2 hA⟩
theorem p2_e3 : p2 3 = 8 := by decide +kernel
theorem p2_em21 : p2 (3 - 24) = 1 / 2097152 := by decide +kernel
theorem p2_e7 : p2 7 = 128 := by decide +kernel
theorem p2_em17 : p2 (7 - 24) = 1 / 131072 := by decide +kernel
/-- A piece of a line: its length as the program gives it. -/
structure Pc (p p' : Nat × Nat) (R d : Rat) (r : Nat) : Prop where
  words : ∃ u v, floatBits .sub .f32 p'.1 p.1 = some u ∧ floatBits .sub .f32 p'.2 p.2 = some v ∧ ∀ w : World, Calls Try.prog 18 #[.complex .f32 u v] w fun e w' => e = .returned (.float .f32 r) ∧ w' = w
  fin : Fl .f32 r
  near : InR (Num.fv .f32 r - R) d
theorem sub_near {a b : Nat} (fa : Fl .f32 a) (fb : Fl .f32 b) (h : InR (Num.fv .f32 b - Num.fv .f32 a) 7) : ∃ u, floatBits .sub .f32 b a = some u ∧ Fl .f32 u ∧ InR (Num.fv .f32 u - (Num.fv .f32 b - Num.fv .f32 a)) (1 / 2097152) := by
  have t := fl_tops (in_le h (by decide +kernel))
  obtain ⟨u, u1, u2⟩ := fsub fb fa t.1 t.2
  have n := u2.near32 3 (by decide) (by decide) (by rw [p2_e3]; have := h.1; grind) (by rw [p2_e3]; have := h.2; grind)
  rw [p2_em21] at n
  refine ⟨u, u1, u2.fin, ?_⟩
  have n1 := n.1
  have n2 := n.2
  unfold InR
  constructor <;> grind
theorem pc_ex {p p' : Nat × Nat} {R d : Rat} (f1 : Fl .f32 p.1) (f2 : Fl .f32 p.2) (g1 : Fl .f32 p'.1) (g2 : Fl .f32 p'.2) (R0 : 0 ≤ R) (R5 : R ≤ 5) (d0 : 0 ≤ d) (d1 : d ≤ 1) (h : Near2 (Num.fv .f32 p'.1 - Num.fv .f32 p.1) (Num.fv .f32 p'.2 - Num.fv .f32 p.2) R d) : ∃ r, Pc p p' R (d + 1 / 100000) r := by
  have h6 := h.up.mono (show R + d ≤ 7 by grind)
  obtain ⟨u, u1, fu, nu⟩ := sub_near f1 g1 h6.fst
  obtain ⟨v, v1, fv_, nv⟩ := sub_near f2 g2 h6.snd
  have N := h.shift nu nv
  have L7 := N.up.mono (show R + (d + 2 * (1 / 2097152)) ≤ 7 by grind)
  have md : (7 : Rat) ≤ mid := by decide +kernel
  obtain ⟨r, r1, r2⟩ := long_num fu fv_ (in_le L7.fst md) (in_le L7.snd md)
  obtain ⟨U, eU⟩ : ∃ U, Num.fv .f32 u = U := ⟨_, rfl⟩
  obtain ⟨V, eV⟩ : ∃ U, Num.fv .f32 v = U := ⟨_, rfl⟩
  rw [eU, eV] at N L7 r2
  have q49 := L7.sq
  have q0 : 0 ≤ U * U + V * V := by have := rsq_nn U; have := rsq_nn V; grind
  obtain ⟨k1, k2⟩ := root_near32 r2 3 (by decide) (by decide) q0 (by rw [p2_e3]; grind)
  rw [p2_em21] at k1 k2
  have r0 : 0 ≤ Num.fv .f32 r := r2.nonneg
  have a1 := k2 (R + (d + 2 * (1 / 2097152))) N.up.nn N.up.sq
  have a2 := N.lo (Num.fv .f32 r + 1 / 2097152) ⟨by grind, k1⟩
  refine ⟨r, ⟨⟨u, v, u1, v1, r1⟩, r2.fin, ?_⟩⟩
  generalize Num.fv .f32 r = Z at *
  clear k1 k2 q49 q0 N L7 h6 h nu nv
  unfold InR
  constructor <;> grind
def smF (pw : Nat → Nat) : Nat → Nat
  | 0 => 0
  | 1 => 0
  | k + 2 => (floatBits .add .f32 (smF pw (k + 1)) (pw k)).getD 0
theorem sum_step {s r : Nat} {m R d e : Rat} (fs : Fl .f32 s) (fr : Fl .f32 r) (hs : InR (Num.fv .f32 s - m) e) (hr : InR (Num.fv .f32 r - R) d) (hm0 : 0 ≤ m) (hm : m ≤ 80) (R0 : 0 ≤ R) (R5 : R ≤ 5) (hd : d ≤ 1) (he : e ≤ 20) : ∃ t, floatBits .add .f32 s r = some t ∧ Fl .f32 t ∧ InR (Num.fv .f32 t - (m + R)) (e + (d + 1 / 100000)) := by
  obtain ⟨U, eU⟩ : ∃ U, Num.fv .f32 s = U := ⟨_, rfl⟩
  obtain ⟨V, eV⟩ : ∃ U, Num.fv .f32 r = U := ⟨_, rfl⟩
  rw [eU] at hs
  rw [eV] at hr
  obtain ⟨s1, s2⟩ := hs
  obtain ⟨r1, r2⟩ := hr
  have h : InR (U + V) 128 := by unfold InR; constructor <;> grind
  have tt := fl_tops (in_le h (by decide +kernel))
  obtain ⟨t, t1, t2⟩ := fadd fs fr (by rw [eU, eV]; exact tt.1) (by rw [eU, eV]; exact tt.2)
  rw [eU, eV] at t2
  have n := t2.near32 7 (by decide) (by decide) (by rw [p2_e7]; exact h.1) (by rw [p2_e7]; exact h.2)
  rw [p2_em17] at n
  refine ⟨t, t1, t2.fin, ?_⟩
  have n1 := n.1
  have n2 := n.2
  generalize Num.fv .f32 t = T at *
  clear tt t1 n h
  unfold InR
  constructor <;> grind
theorem len_line {f : Nat → Nat × Nat} {m : Nat} {R d : Rat} (hm : m ≤ 16) (R0 : 0 ≤ R) (R5 : R ≤ 5) (d0 : 0 ≤ d) (d1 : d ≤ 1) (H : ∀ k, k < m → ∃ r, Pc (f k) (f (k + 1)) R d r) : ∃ pw sm, LSum f (m + 1) pw sm ∧ Fl .f32 (sm (m + 1)) ∧ InR (Num.fv .f32 (sm (m + 1)) - (m : Rat) * R) ((m : Rat) * (d + 1 / 100000)) := by
  obtain ⟨pw, hp⟩ : ∃ pw : Nat → Nat, ∀ k, k < m → Pc (f k) (f (k + 1)) R d (pw k) := by
    refine ⟨fun k => if h : k < m then Classical.choose (H k h) else 0, fun k h => ?_⟩
    show Pc (f k) (f (k + 1)) R d (if h : k < m then Classical.choose (H k h) else 0)
    rw [dif_pos h]
    exact Classical.choose_spec (H k h)
  have key : ∀ k, k ≤ m → Fl .f32 (smF pw (k + 1)) ∧ InR (Num.fv .f32 (smF pw (k + 1)) - (k : Rat) * R) ((k : Rat) * (d + 1 / 100000)) ∧ ∀ j, k = j + 1 → floatBits .add .f32 (smF pw (j + 1)) (pw j) = some (smF pw (j + 2)) := by
    intro k
    induction k with
    | zero =>
      intro _
      have e0 : ((0 : Nat) : Rat) = 0 := rfl
      refine ⟨c0.1, ?_, fun j hj => by omega⟩
      show InR (Num.fv .f32 0 - _) _
      rw [c0.2, e0]
      unfold InR
      constructor <;> grind
    | succ k ih =>
      intro hk
      obtain ⟨i1, i2, _⟩ := ih (by omega)
      have P := hp k (by omega)
      have k0 : (0 : Rat) ≤ (k : Rat) := Rat.natCast_nonneg
      have k16 : (k : Rat) ≤ 16 := by
        have := Rat.natCast_le_natCast.2 (show k ≤ 16 by omega)
        exact this
      have a0 := Rat.mul_nonneg k0 R0
      have a1 := Rat.mul_le_mul_of_nonneg_left R5 k0
      have a2 := Rat.mul_le_mul_of_nonneg_left (show d + 1 / 100000 ≤ 5 / 4 by grind) k0
      obtain ⟨t, t1, t2, t3⟩ := sum_step i1 P.fin i2 P.near a0 (by grind) R0 R5 d1 (by grind)
      have e : smF pw (k + 2) = t := by
        show (floatBits .add .f32 (smF pw (k + 1)) (pw k)).getD 0 = t
        rw [t1]
        rfl
      refine ⟨by rw [e]; exact t2, ?_, fun j hj => ?_⟩
      · rw [e, show ((k + 1 : Nat) : Rat) = (k : Rat) + 1 by rw [Rat.natCast_add]; rfl, show ((k : Rat) + 1) * R = (k : Rat) * R + R by grind, show ((k : Rat) + 1) * (d + 1 / 100000) = (k : Rat) * (d + 1 / 100000) + (d + 1 / 100000) by grind]
        exact t3
      · obtain rfl : k = j := by omega
        rw [e]
        exact t1
  obtain ⟨k1, k2, _⟩ := key m (Nat.le_refl _)
  exact ⟨pw, smF pw, ⟨rfl, fun k hk => (hp k (by omega)).words, fun k hk => (key (k + 1) (by omega)).2.2 k rfl⟩, k1, k2⟩
end Go.Proofs.Ytkldgcgijkfpaaa
