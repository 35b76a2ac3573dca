/- Plain law: the area of a loop that is turned and doubled is four times as much, nearly. Conditions: ways of at most 16 moves. -/
import Derived.Test.YtkldgcgijkfpaaaTun
namespace Go.Proofs.Ytkldgcgijkfpaaa
open Go.RowKit
open Num Quick

def bG (k : Nat) : Rat := Aa * (k : Rat) * (2 + nu)
def bB (k : Nat) : Rat := 3 / 2 * (bG k * rho + tinr)
def bM : Nat → Rat
  | 0 => 0
  | k + 1 => bM k + (bG k * bB (k + 1) + bB k * bG (k + 1) + bB k * bB (k + 1))
theorem last_ok : ∀ m, m < 17 → 4 * bR Aa m + nu * bA Aa m / 2 + bM m / 2 + bR Ab m ≤ 1 / 64 ∧ bA Ab m / 2 + bR Ab m ≤ 4096 ∧ bA Aa m / 2 + bR Aa m ≤ 4096 := by decide +kernel
theorem cone_ok : ∀ k, k < 17 → bG k + bB k ≤ bL Ab k := by decide +kernel
theorem Way.cone {s : Rat} {P : Nat → Nat × Nat} {m : Nat} (h : Way s P m) (s0 : 0 ≤ s) (s2 : s ≤ 2) : Cone P Aa m where
  fin := fun k hk => ⟨(h.far s0 s2 k hk).1, (h.far s0 s2 k hk).2.1⟩
  far := fun k hk => (h.far s0 s2 k hk).2.2.mono (by unfold bL; grind)
  step := fun k hk => ((h.mv k hk).up s0 s2).mono (by unfold Aa; grind)
theorem turned_cone {s : Rat} {P T : Nat → Nat × Nat} {m b1 b2 : Nat} (h : Way s P m) (s0 : 0 ≤ s) (s2 : s ≤ 2) (hm : m ≤ 16) (hb : Dbl (Num.fv .f32 b1) (Num.fv .f32 b2)) (hT : ∀ k, k < m + 1 → Turned P T b1 b2 k) : Cone T Ab m ∧ ∀ k, k < m → InR (crs T k (k + 1) - (Num.fv .f32 b1 * Num.fv .f32 b1 + Num.fv .f32 b2 * Num.fv .f32 b2) * crs P k (k + 1)) (bG k * bB (k + 1) + bB k * bG (k + 1) + bB k * bB (k + 1)) := by
  have L : ∀ k, k ≤ m → Le2 (Num.fv .f32 (P k).1 * Num.fv .f32 b1 - Num.fv .f32 (P k).2 * Num.fv .f32 b2) (Num.fv .f32 (P k).1 * Num.fv .f32 b2 + Num.fv .f32 (P k).2 * Num.fv .f32 b1) (bG k) := fun k hk => (h.far s0 s2 k hk).2.2.mul hb.le
  have E : ∀ k, k ≤ m → Le2 (Num.fv .f32 (T k).1 - (Num.fv .f32 (P k).1 * Num.fv .f32 b1 - Num.fv .f32 (P k).2 * Num.fv .f32 b2)) (Num.fv .f32 (T k).2 - (Num.fv .f32 (P k).1 * Num.fv .f32 b2 + Num.fv .f32 (P k).2 * Num.fv .f32 b1)) (bB k) := fun k hk => Le2.small' (hT k (by omega)).x (hT k (by omega)).y
  refine ⟨⟨fun k hk => ⟨(hT k (by omega)).cb.1, (hT k (by omega)).cb.2.1⟩, fun k hk => ?_, fun k hk => ?_⟩, fun k hk => ?_⟩
  · have S := (L k hk).add (E k hk)
    rw [show ∀ a b : Rat, a + (b - a) = b from fun a b => by grind, show ∀ a b : Rat, a + (b - a) = b from fun a b => by grind] at S
    exact S.mono (cone_ok k (by omega))
  · have M := ((h.mv k hk).up s0 s2).mul hb.le
    have FA := (far_in (show k ≤ 16 by omega)).2
    have FB := (far_in (show k + 1 ≤ 16 by omega)).2
    have ax := in_le (hT k (by omega)).x FA
    have ay := in_le (hT k (by omega)).y FA
    have bx := in_le (hT (k + 1) (by omega)).x FB
    have by_ := in_le (hT (k + 1) (by omega)).y FB
    have Q : Le2 ((Num.fv .f32 (T (k + 1)).1 - (Num.fv .f32 (P (k + 1)).1 * Num.fv .f32 b1 - Num.fv .f32 (P (k + 1)).2 * Num.fv .f32 b2)) - (Num.fv .f32 (T k).1 - (Num.fv .f32 (P k).1 * Num.fv .f32 b1 - Num.fv .f32 (P k).2 * Num.fv .f32 b2))) ((Num.fv .f32 (T (k + 1)).2 - (Num.fv .f32 (P (k + 1)).1 * Num.fv .f32 b2 + Num.fv .f32 (P (k + 1)).2 * Num.fv .f32 b1)) - (Num.fv .f32 (T k).2 - (Num.fv .f32 (P k).1 * Num.fv .f32 b2 + Num.fv .f32 (P k).2 * Num.fv .f32 b1))) (2 * (1 / 120000 + 1 / 120000)) := Le2.small (in_sub bx ax) (in_sub by_ ay)
    have S := M.add Q
    rw [show (Num.fv .f32 (P (k + 1)).1 - Num.fv .f32 (P k).1) * Num.fv .f32 b1 - (Num.fv .f32 (P (k + 1)).2 - Num.fv .f32 (P k).2) * Num.fv .f32 b2 + ((Num.fv .f32 (T (k + 1)).1 - (Num.fv .f32 (P (k + 1)).1 * Num.fv .f32 b1 - Num.fv .f32 (P (k + 1)).2 * Num.fv .f32 b2)) - (Num.fv .f32 (T k).1 - (Num.fv .f32 (P k).1 * Num.fv .f32 b1 - Num.fv .f32 (P k).2 * Num.fv .f32 b2))) = Num.fv .f32 (T (k + 1)).1 - Num.fv .f32 (T k).1 by grind,
      show (Num.fv .f32 (P (k + 1)).1 - Num.fv .f32 (P k).1) * Num.fv .f32 b2 + (Num.fv .f32 (P (k + 1)).2 - Num.fv .f32 (P k).2) * Num.fv .f32 b1 + ((Num.fv .f32 (T (k + 1)).2 - (Num.fv .f32 (P (k + 1)).1 * Num.fv .f32 b2 + Num.fv .f32 (P (k + 1)).2 * Num.fv .f32 b1)) - (Num.fv .f32 (T k).2 - (Num.fv .f32 (P k).1 * Num.fv .f32 b2 + Num.fv .f32 (P k).2 * Num.fv .f32 b1))) = Num.fv .f32 (T (k + 1)).2 - Num.fv .f32 (T k).2 by grind] at S
    refine S.mono ?_
    have m1 := Rat.mul_le_mul_of_nonneg_right (show s + 1 / 60000 ≤ 2 + 1 / 60000 by grind) (show (0 : Rat) ≤ 2 + nu by decide +kernel)
    have k1 : ((2 + 1 / 60000) * (2 + nu) + 2 * (1 / 120000 + 1 / 120000) : Rat) ≤ Ab := by decide +kernel
    generalize (s + 1 / 60000) * (2 + nu) = q at *
    generalize ((2 + 1 / 60000) * (2 + nu) : Rat) = q2 at *
    generalize Ab = z at *
    clear M Q S ax ay bx by_ L E
    grind
  · have L0 := L k (by omega)
    have L1 := L (k + 1) (by omega)
    have E0 := E k (by omega)
    have E1 := E (k + 1) (by omega)
    have c1 := L0.cross E1
    have c2 := E0.cross L1
    have c3 := E0.cross E1
    have S := in_add (in_add c1 c2) c3
    unfold crs
    generalize Num.fv .f32 (T k).1 = t1 at *
    generalize Num.fv .f32 (T k).2 = t2 at *
    generalize Num.fv .f32 (T (k + 1)).1 = u1 at *
    generalize Num.fv .f32 (T (k + 1)).2 = u2 at *
    generalize Num.fv .f32 (P k).1 = p1 at *
    generalize Num.fv .f32 (P k).2 = p2' at *
    generalize Num.fv .f32 (P (k + 1)).1 = q1 at *
    generalize Num.fv .f32 (P (k + 1)).2 = q2 at *
    generalize Num.fv .f32 b1 = c at *
    generalize Num.fv .f32 b2 = d at *
    have e : t1 * u2 - t2 * u1 - (c * c + d * d) * (p1 * q2 - p2' * q1) = (p1 * c - p2' * d) * (u2 - (q1 * d + q2 * c)) - (p1 * d + p2' * c) * (u1 - (q1 * c - q2 * d)) + ((t1 - (p1 * c - p2' * d)) * (q1 * d + q2 * c) - (t2 - (p1 * d + p2' * c)) * (q1 * c - q2 * d)) + ((t1 - (p1 * c - p2' * d)) * (u2 - (q1 * d + q2 * c)) - (t2 - (p1 * d + p2' * c)) * (u1 - (q1 * c - q2 * d))) := by grind
    rw [e]
    exact S
theorem arT_turn {P T : Nat → Nat × Nat} {N : Rat} {m : Nat} (h : ∀ k, k < m → InR (crs T k (k + 1) - N * crs P k (k + 1)) (bG k * bB (k + 1) + bB k * bG (k + 1) + bB k * bB (k + 1))) : ∀ k, k ≤ m → InR (arT T k - N * arT P k) (bM k)
  | 0, _ => by
    show InR (0 - N * 0) 0
    unfold InR
    constructor <;> grind
  | k + 1, hk => by
    have := in_add (arT_turn h k (by omega)) (h k (by omega))
    show InR (arT T k + crs T k (k + 1) - N * (arT P k + crs P k (k + 1))) _
    rw [show arT T k + crs T k (k + 1) - N * (arT P k + crs P k (k + 1)) = arT T k - N * arT P k + (crs T k (k + 1) - N * crs P k (k + 1)) by grind]
    exact this
/-- Four times the area, nearly. -/
theorem area_law {s : Rat} {P T : Nat → Nat × Nat} {m b1 b2 : Nat} (h : Way s P m) (s0 : 0 ≤ s) (s2 : s ≤ 2) (hm : m ≤ 16) (hb : Dbl (Num.fv .f32 b1) (Num.fv .f32 b2)) (hT : ∀ k, k < m + 1 → Turned P T b1 b2 k) :
    ∃ sd sm c sd' sm' d, ASum P (m + 1) sd sm c ∧ ASum T (m + 1) sd' sm' d ∧ InR (4 * Num.fv .f32 c - Num.fv .f32 d) (1 / 64) ∧ InR (Num.fv .f32 d) 4096 ∧ InR (Num.fv .f32 c) 4096 := by
  have C1 := h.cone s0 s2
  obtain ⟨C2, G⟩ := turned_cone h s0 s2 hm hb hT
  obtain ⟨sd, sm, c, A1, n1⟩ := area_ex C1 (fun k hk => sz_line k (by omega))
  obtain ⟨sd', sm', d, A2, n2⟩ := area_ex C2 (fun k hk => sz_turned k (by omega))
  obtain ⟨l1, l2, l3⟩ := last_ok m (by omega)
  have g := arT_turn G m (Nat.le_refl _)
  have a1 := C1.arT m (Nat.le_refl _)
  have a2 := C2.arT m (Nat.le_refl _)
  have up := hb.up
  have lo := hb.lo
  have hN : InR (4 - (Num.fv .f32 b1 * Num.fv .f32 b1 + Num.fv .f32 b2 * Num.fv .f32 b2)) nu := by
    unfold InR
    constructor <;> grind
  have p := prod_in hN a1 (by decide +kernel)
  refine ⟨sd, sm, c, sd', sm', d, A1, A2, ?_, ?_, ?_⟩
  all_goals
    generalize Num.fv .f32 b1 * Num.fv .f32 b1 + Num.fv .f32 b2 * Num.fv .f32 b2 = N at *
    generalize arT P m = X at *
    generalize arT T m = Y at *
    generalize Num.fv .f32 c = c' at *
    generalize Num.fv .f32 d = d' at *
    generalize bA Aa m = B1 at *
    generalize bA Ab m = B2 at *
    generalize bR Aa m = R1 at *
    generalize bR Ab m = R2 at *
    generalize bM m = M at *
    obtain ⟨u1, u2⟩ := n1
    obtain ⟨u3, u4⟩ := n2
    obtain ⟨u5, u6⟩ := g
    obtain ⟨u7, u8⟩ := p
    obtain ⟨v1, v2⟩ := a1
    obtain ⟨v3, v4⟩ := a2
    rw [show (4 - N) * X = 4 * X - N * X by grind] at u7 u8
    generalize N * X = Z at *
    generalize nu * B1 = W at *
    clear A1 A2 C1 C2 G hT h hb up lo hN
    unfold InR
    constructor <;> grind
end Go.Proofs.Ytkldgcgijkfpaaa
