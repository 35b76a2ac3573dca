/- Plain law: roots, order, errors of rounding; both of Go's kinds of floats as rational numbers. -/
import Derived.Test.YtkldgcgijkfpaaaFb
namespace Go.Proofs.Ytkldgcgijkfpaaa.Num
open Ieee
open Go.Proofs.Ytkldgcgijkfpaaa.Rnd Go.Proofs.Ytkldgcgijkfpaaa.Quick

theorem sq_le {a b : Rat} (hb : 0 ≤ b) (h : a * a ≤ b * b) : a ≤ b := by
  by_cases c : a ≤ b
  · exact c
  · exfalso
    have h1 : 0 < a - b := by grind
    have h2 := Rat.mul_pos h1 h1
    have h3 := Rat.mul_nonneg hb (Rat.le_of_lt h1)
    grind
theorem sq_lt' {a b : Rat} (hb : 0 ≤ b) (h : a * a < b * b) : a < b := by
  by_cases c : a < b
  · exact c
  · exfalso
    have h1 : 0 ≤ a - b := by grind
    have h2 := Rat.mul_nonneg h1 h1
    have h3 := Rat.mul_nonneg hb h1
    grind
theorem le_sq {a b : Rat} (ha : 0 ≤ a) (h : a ≤ b) : a * a ≤ b * b := by
  have h1 := Rat.mul_nonneg ha (show 0 ≤ b - a by grind)
  have h2 := Rat.mul_nonneg (show 0 ≤ b by grind) (show 0 ≤ b - a by grind)
  grind
section
variable (f : Format)
/-- The word w stands for the root of x, rounded. -/
structure IsRoot (x : Rat) (w : Nat) : Prop where
  fin : IsFin f w
  lt : w < 2 ^ f.width
  nonneg : 0 ≤ val f w
  le : ∀ u, Rep f u → 0 ≤ u → x ≤ u * u → val f w ≤ u
  ge : ∀ u, Rep f u → 0 ≤ u → u * u ≤ x → u ≤ val f w
theorem rv_rep_nonneg {u : Rat} (h : Rep f u) (h0 : 0 ≤ u) : ∃ r, r < f.infRung ∧ u = rv f r := by
  obtain ⟨r, hr, e | e⟩ := h
  · exact ⟨r, hr, e⟩
  · have := rv_nonneg f r
    refine ⟨0, by omega, ?_⟩
    rw [rv_zero]
    grind
theorem sqrt_root {x : Nat} (hx : IsFin f x) (h0 : 0 ≤ val f x) (hl : ∃ U, Rep f U ∧ 0 ≤ U ∧ val f x ≤ U * U) : ∃ r, f.sqrt x = some r ∧ IsRoot f (val f x) r := by
  obtain ⟨s, m, i, e1, v1⟩ := read_fin f hx
  obtain ⟨U, hU, hU0, hUx⟩ := hl
  obtain ⟨rU, hrU, eU⟩ := rv_rep_nonneg f hU hU0
  have hi := inf_lt f
  unfold Format.sqrt
  rw [e1]
  by_cases hm0 : m = 0
  · subst hm0
    refine ⟨f.nearest s 0 i, by unfold Datum.root; simp only [if_true]; rfl, ?_⟩
    have hv0 : val f x = 0 := by rw [v1]; cases s <;> simp
    rw [nearest_rung]
    have hr : rungP f 0 i = 0 := by unfold rungP; rw [if_pos rfl]
    rw [hr]
    have hv := val_word f (s := s) (r := 0) (by omega)
    have hv2 : val f (f.word s 0) = 0 := by rw [hv.2, rv_zero]; cases s <;> simp
    refine ⟨hv.1, f.word_lt s (by omega), by rw [hv2]; exact Rat.le_refl, ?_, ?_⟩
    · intro u hu hu0 _
      rw [hv2]; exact hu0
    · intro u hu hu0 h
      rw [hv2]
      rw [hv0] at h
      exact sq_le (Rat.le_refl) (by grind)
  · have hmp : 0 < (m : Rat) * p2 i := Rat.mul_pos (Rat.natCast_pos.2 (by omega)) (p2_pos i)
    obtain rfl : s = false := by
      cases s
      · rfl
      · rw [v1] at h0
        simp only [if_true] at h0
        grind
    simp only [Bool.false_eq_true, if_false] at v1
    obtain ⟨more, hmore⟩ : ∃ a, 2 * (f.fractionBits + 2) - m.log2 + ((i - (2 * (f.fractionBits + 2) - m.log2 : Nat)) % 2).toNat = a := ⟨_, rfl⟩
    obtain ⟨n, hn⟩ : ∃ n, m <<< more = n := ⟨_, rfl⟩
    obtain ⟨w, hw⟩ : ∃ w, Datum.rootFrom n (n.log2 / 2 + 1) 0 = w := ⟨_, rfl⟩
    rw [root_num _ _ hm0 hmore hn hw]
    refine ⟨_, rfl, ?_⟩
    have hs := rootFrom_spec n (n.log2 / 2 + 1) 0 (by omega) (by
      rw [Nat.zero_add, ← Nat.pow_add]
      exact Nat.lt_of_lt_of_le Nat.lt_log2_self (Nat.pow_le_pow_right (by omega) (by omega)))
    rw [hw] at hs
    obtain ⟨g, hg⟩ : ∃ g : Int, (i - (more : Int)) / 2 = g := ⟨_, rfl⟩
    have hig : i = g + g + (more : Int) := by omega
    show IsRoot f _ (f.nearest false (2 * w + (w * w != n).toNat) ((i - (more : Int)) / 2 - 1))
    rw [hg, nearest_rung]
    obtain ⟨st, hst⟩ : ∃ st, (w * w != n).toNat = st := ⟨_, rfl⟩
    rw [hst]
    have hst1 : st ≤ 1 := by rw [← hst]; cases (w * w != n) <;> decide
    have hgp := p2_pos g
    -- what the number is
    have hvn : val f x = (n : Rat) * (p2 g * p2 g) := by
      rw [v1, hig, p2_add, p2_add, ← hn, Nat.shiftLeft_eq, Rat.natCast_mul, p2_nat]
      grind
    have hwq : 2 ^ (f.fractionBits + 1) ≤ w := by
      have l1 : 2 ^ (2 * (f.fractionBits + 2)) ≤ n := by
        rw [← hn, Nat.shiftLeft_eq]
        calc 2 ^ (2 * (f.fractionBits + 2)) ≤ 2 ^ (m.log2 + more) := Nat.pow_le_pow_right (by omega) (by omega)
          _ = 2 ^ m.log2 * 2 ^ more := Nat.pow_add _ _ _
          _ ≤ m * 2 ^ more := Nat.mul_le_mul_right _ (Nat.log2_self_le hm0)
      have l2 : 2 ^ (f.fractionBits + 2) * 2 ^ (f.fractionBits + 2) < (w + 1) * (w + 1) := by
        rw [← Nat.pow_add, show f.fractionBits + 2 + (f.fractionBits + 2) = 2 * (f.fractionBits + 2) by omega]
        exact Nat.lt_of_le_of_lt l1 hs.2
      have := sq_lt l2
      rw [Nat.pow_succ] at this
      omega
    have e2 : ((w + 1 : Nat) : Rat) = (w : Rat) + 1 := by rw [Rat.natCast_add]; rfl
    have hw0 : 0 ≤ (w : Rat) := Rat.natCast_nonneg
    have c1 : (w : Rat) * (w : Rat) ≤ (n : Rat) := by rw [← Rat.natCast_mul]; exact Rat.natCast_le_natCast.2 hs.1
    have c2 : (n : Rat) < ((w : Rat) + 1) * ((w : Rat) + 1) := by rw [← e2, ← Rat.natCast_mul]; exact Rat.natCast_lt_natCast.2 hs.2
    have hgg := Rat.mul_pos hgp hgp
    have d1 := Rat.mul_le_mul_of_nonneg_right c1 (Rat.le_of_lt hgg)
    have d2 : (n : Rat) * (p2 g * p2 g) < ((w : Rat) + 1) * ((w : Rat) + 1) * (p2 g * p2 g) := by
      have := Rat.mul_pos (show 0 < ((w : Rat) + 1) * ((w : Rat) + 1) - (n : Rat) by grind) hgg
      grind
    -- a rational number at the root's place
    obtain ⟨X, hX⟩ : ∃ X : Rat, (w : Rat) * p2 g + (st : Rat) * (p2 g / 2) = X := ⟨_, rfl⟩
    have h0X : st = 0 → X = (w : Rat) * p2 g := by
      rintro rfl
      have : ((0 : Nat) : Rat) = 0 := rfl
      grind
    have h1X : st = 1 → (w : Rat) * p2 g < X ∧ X < ((w + 1 : Nat) : Rat) * p2 g := by
      rintro rfl
      have : ((1 : Nat) : Rat) = 1 := rfl
      rw [e2]
      constructor <;> grind
    have hst0 : st = 0 → w * w = n := by
      intro c
      cases h : (w * w != n) with
      | true => rw [h] at hst; rw [← hst] at c; cases c
      | false => simpa using h
    have hst2 : st = 1 → w * w ≠ n := by
      intro c h
      rw [h] at hst
      simp at hst
      omega
    have hX0 : 0 ≤ X := by
      have := Rat.mul_nonneg hw0 (Rat.le_of_lt hgp)
      have : 0 ≤ (st : Rat) * (p2 g / 2) := Rat.mul_nonneg Rat.natCast_nonneg (by grind)
      grind
    have up : ∀ rc, rc < f.infRung → val f x ≤ rv f rc * rv f rc → X ≤ rv f rc := by
      intro rc hrc h
      have hr0 := rv_nonneg f rc
      rw [hvn] at h
      rcases Nat.eq_zero_or_pos st with c | c
      · rw [h0X c]
        apply sq_le hr0
        grind
      · have c' : st = 1 := by omega
        have c3 : (w : Rat) * (w : Rat) < (n : Rat) := by
          rw [← Rat.natCast_mul]
          exact Rat.natCast_lt_natCast.2 (by have := hst2 c'; omega)
        have d3 := Rat.mul_pos (show 0 < (n : Rat) - (w : Rat) * (w : Rat) by grind) hgg
        have hlt : (w : Rat) * p2 g < rv f rc := by
          apply sq_lt' hr0
          grind
        have hnx := rung_next f hwq hlt
        have := (h1X c').2
        grind
    have down : ∀ rc, rc < f.infRung → rv f rc * rv f rc ≤ val f x → rv f rc ≤ X := by
      intro rc hrc h
      have hr0 := rv_nonneg f rc
      rw [hvn] at h
      have hlt : rv f rc < ((w : Rat) + 1) * p2 g := by
        apply sq_lt' (Rat.mul_nonneg (by grind) (Rat.le_of_lt hgp))
        grind
      have hXw : (w : Rat) * p2 g ≤ X := by
        have : 0 ≤ (st : Rat) * (p2 g / 2) := Rat.mul_nonneg Rat.natCast_nonneg (by grind)
        grind
      by_cases k : rv f rc ≤ (w : Rat) * p2 g
      · grind
      · have hnx := rung_next f hwq (rc := rc) (g := g) (by grind)
        rw [e2] at hnx
        grind
    have hW := word_rnd f false hX0 (x := X) (by simp) (fun rc hrc h => sticky_le f hst1 h0X h1X (fun _ => hwq) hrc h) (fun rc hrc h => sticky_ge f hst1 h0X h1X (fun _ => hwq) hrc h)
      ⟨U, hU, by rw [eU]; apply up rU hrU; rw [← eU]; exact hUx, by grind⟩
    refine ⟨hW.fin, hW.lt, hW.ge 0 ⟨0, by omega, .inl (rv_zero f).symm⟩ hX0, ?_, ?_⟩
    · intro u hu hu0 h
      obtain ⟨r, hr, e⟩ := rv_rep_nonneg f hu hu0
      exact hW.le u hu (by rw [e]; apply up r hr; rw [← e]; exact h)
    · intro u hu hu0 h
      obtain ⟨r, hr, e⟩ := rv_rep_nonneg f hu hu0
      exact hW.ge u hu (by rw [e]; apply down r hr; rw [← e]; exact h)
/-- How two finite words stand to each other. -/
theorem order_fin {x y : Nat} (hx : IsFin f x) (hy : IsFin f y) : ∃ o, f.order x y = some o ∧ (o = .lt ↔ val f x < val f y) ∧ (o = .eq ↔ val f x = val f y) ∧ (o = .gt ↔ val f y < val f x) := by
  obtain ⟨s, m, i, e1, v1⟩ := read_fin f hx
  obtain ⟨t, n, j, e2, v2⟩ := read_fin f hy
  unfold Format.order
  rw [e1, e2]
  refine ⟨_, rfl, ?_⟩
  obtain ⟨b, hb⟩ : ∃ b, min i j = b := ⟨_, rfl⟩
  rw [hb]
  rw [← signed_val s m (b := b) (by omega)] at v1
  rw [← signed_val t n (b := b) (by omega)] at v2
  obtain ⟨A, hA⟩ : ∃ A, signed s m (i - b).toNat = A := ⟨_, rfl⟩
  obtain ⟨C, hC⟩ : ∃ C, signed t n (j - b).toNat = C := ⟨_, rfl⟩
  rw [hA] at v1 ⊢
  rw [hC] at v2 ⊢
  have hp := p2_pos b
  rw [v1, v2]
  rcases Int.lt_trichotomy A C with h | h | h
  · have hr : (A : Rat) < (C : Rat) := Rat.intCast_lt_intCast.2 h
    have := Rat.mul_pos (show 0 < (C : Rat) - (A : Rat) by grind) hp
    rw [cmp_lt h]
    refine ⟨⟨fun _ => (by grind), fun _ => rfl⟩, ⟨fun h => (by cases h), fun h => (by grind)⟩, ⟨fun h => (by cases h), fun h => (by grind)⟩⟩
  · rw [cmp_eq h, h]
    refine ⟨⟨fun h => (by cases h), fun h => (by grind)⟩, ⟨fun _ => rfl, fun _ => rfl⟩, ⟨fun h => (by cases h), fun h => (by grind)⟩⟩
  · have hr : (C : Rat) < (A : Rat) := Rat.intCast_lt_intCast.2 h
    have := Rat.mul_pos (show 0 < (A : Rat) - (C : Rat) by grind) hp
    rw [cmp_gt h]
    refine ⟨⟨fun h => (by cases h), fun h => (by grind)⟩, ⟨fun h => (by cases h), fun h => (by grind)⟩, ⟨fun _ => (by grind), fun _ => rfl⟩⟩
/-- Few digits at a place, with a sign. -/
theorem rep_int {k e : Int} (hk : k.natAbs ≤ 2 ^ (f.fractionBits + 1)) (h1 : f.leastPlace ≤ e) (h2 : e - f.leastPlace + 4 ≤ 2 ^ f.exponentBits) : Rep f ((k : Rat) * p2 e) := by
  obtain ⟨r, hr, er⟩ := rep_mag f hk h1 h2
  rcases Int.natAbs_eq k with h | h
  · refine ⟨r, hr, .inl ?_⟩
    rw [er, h, Rat.intCast_natCast]
    simp
  · refine ⟨r, hr, .inr ?_⟩
    rw [er, h, Rat.intCast_neg, Rat.intCast_natCast]
    simp
    grind
/-- Rounding is off by less than the last place of the number's size. -/
theorem IsRnd.near {x : Rat} {w : Nat} (h : IsRnd f x w) {g : Int} (hg : f.leastPlace ≤ g) (hg2 : g - f.leastPlace + 4 ≤ 2 ^ f.exponentBits) (h1 : x ≤ p2 (g + f.fractionBits + 1)) (h2 : -p2 (g + f.fractionBits + 1) ≤ x) : val f w ≤ x + p2 g ∧ x ≤ val f w + p2 g := by
  have hgp := p2_pos g
  have he : p2 (g + f.fractionBits + 1) = ((2 ^ (f.fractionBits + 1) : Nat) : Rat) * p2 g := by
    rw [show g + (f.fractionBits : Int) + 1 = ((f.fractionBits + 1 : Nat) : Int) + g by omega, p2_add, p2_nat]
  rw [he] at h1 h2
  obtain ⟨k, hk⟩ : ∃ k, (x / p2 g).floor = k := ⟨_, rfl⟩
  have f1 := Rat.floor_le (x / p2 g)
  have f2 := Rat.lt_floor_add_one (x / p2 g)
  rw [hk] at f1 f2
  have hxg : x / p2 g * p2 g = x := by grind
  have g1 : (k : Rat) * p2 g ≤ x := by
    have := Rat.mul_le_mul_of_nonneg_right f1 (Rat.le_of_lt hgp)
    grind
  have e1 : ((k + 1 : Int) : Rat) = (k : Rat) + 1 := by rw [Rat.intCast_add]; rfl
  have g2 : x < ((k : Rat) + 1) * p2 g := by
    rw [e1] at f2
    have := Rat.mul_pos (show 0 < (k : Rat) + 1 - x / p2 g by grind) hgp
    grind
  have k1 : k ≤ ((2 ^ (f.fractionBits + 1) : Nat) : Int) := by
    apply Rat.intCast_le_intCast.1
    rw [Rat.intCast_natCast]
    apply rat_cancel hgp
    grind
  have k2 : -((2 ^ (f.fractionBits + 1) : Nat) : Int) < k + 1 := by
    apply Rat.intCast_lt_intCast.1
    rw [Rat.intCast_neg, Rat.intCast_natCast, e1]
    by_cases c : -((2 ^ (f.fractionBits + 1) : Nat) : Rat) < (k : Rat) + 1
    · exact c
    · exfalso
      have := Rat.mul_le_mul_of_nonneg_right (show (k : Rat) + 1 ≤ -((2 ^ (f.fractionBits + 1) : Nat) : Rat) by grind) (Rat.le_of_lt hgp)
      grind
  have r1 := h.ge _ (rep_int f (k := k) (e := g) (by omega) hg hg2) g1
  by_cases k3 : k = ((2 ^ (f.fractionBits + 1) : Nat) : Int)
  · have hx : x = (k : Rat) * p2 g := by
      have : (k : Rat) = ((2 ^ (f.fractionBits + 1) : Nat) : Rat) := by rw [k3, Rat.intCast_natCast]
      rw [this] at g1 ⊢
      grind
    have := h.exact _ (by rw [hx]; exact rep_int f (by omega) hg hg2)
    grind
  · have r2 := h.le _ (rep_int f (k := k + 1) (e := g) (by omega) hg hg2) (by rw [e1]; grind)
    rw [e1] at r2
    grind
end
end Go.Proofs.Ytkldgcgijkfpaaa.Num
