/- Plain law: sums, products, quotients, roots and changes of kind of finite floats, as rounded rational numbers. -/
import Derived.Test.YtkldgcgijkfpaaaFa
namespace Go.Proofs.Ytkldgcgijkfpaaa.Num
open Ieee
open Go.Proofs.Ytkldgcgijkfpaaa.Rnd Go.Proofs.Ytkldgcgijkfpaaa.Quick

section
variable (f : Format)
/-- A word whose rung is told by the numbers of the format around X. -/
theorem word_rnd (s : Bool) {R : Nat} {X x : Rat} (hX : 0 ≤ X) (hx : x = if s then -X else X) (h1 : ∀ rc, rc < f.infRung → X ≤ rv f rc → R ≤ rc) (h2 : ∀ rc, rc < f.infRung → rv f rc ≤ X → rc ≤ R) (hl : Lim f x) : IsRnd f x (f.word s R) := by
  obtain ⟨U, ⟨rU, hrU, eU⟩, hU1, hU2⟩ := hl
  have hrv := rv_nonneg f rU
  have hle : R ≤ rU := h1 rU hrU (by cases s <;> simp at hx <;> rcases eU with e | e <;> grind)
  have hlt : R < f.infRung := by omega
  have h0 : rv f 0 = 0 := rv_zero f
  have hv := val_word f (s := s) hlt
  refine ⟨hv.1, f.word_lt s (by have := inf_lt f; omega), ?_, ?_⟩
  · rintro u ⟨r, hr, e⟩ hxu
    have hr0 := rv_nonneg f r
    rw [hv.2]
    have hR0 := rv_nonneg f R
    cases s
    · simp only [Bool.false_eq_true, if_false] at hx ⊢
      rcases e with e | e
      · have := rv_mono f (h1 r hr (by grind))
        grind
      · have := rv_mono f (h1 0 (by omega) (by grind))
        grind
    · simp only [if_true] at hx ⊢
      rcases e with e | e
      · grind
      · have := rv_mono f (h2 r hr (by grind))
        grind
  · rintro u ⟨r, hr, e⟩ hxu
    have hr0 := rv_nonneg f r
    rw [hv.2]
    have hR0 := rv_nonneg f R
    cases s
    · simp only [Bool.false_eq_true, if_false] at hx ⊢
      rcases e with e | e
      · have := rv_mono f (h2 r hr (by grind))
        grind
      · grind
    · simp only [if_true] at hx ⊢
      rcases e with e | e
      · have := rv_mono f (h1 0 (by omega) (by grind))
        grind
      · have := rv_mono f (h1 r hr (by grind))
        grind
theorem signed_val (s : Bool) (m : Nat) {i b : Int} (h : b ≤ i) : ((signed s m (i - b).toNat : Int) : Rat) * p2 b = if s then -((m : Rat) * p2 i) else (m : Rat) * p2 i := by
  have e1 : p2 i = p2 ((i - b).toNat : Nat) * p2 b := by rw [← p2_add]; congr 1; omega
  rw [e1, p2_nat]
  unfold signed
  rw [Nat.shiftLeft_eq]
  cases s
  · simp only [Bool.false_eq_true, if_false, Rat.intCast_natCast, Rat.natCast_mul, Rat.mul_assoc]
  · simp only [if_true, Rat.intCast_neg, Rat.intCast_natCast, Rat.natCast_mul, Rat.mul_assoc]
    grind
theorem total_rnd (s0 : Bool) (T : Int) (b : Int) (hl : Lim f ((T : Rat) * p2 b)) : IsRnd f ((T : Rat) * p2 b) (f.nearest (if T = 0 then s0 else decide (T < 0)) T.natAbs b) := by
  apply nearest_rnd f _ _ _ _ hl
  by_cases h0 : T = 0
  · subst h0
    cases s0 <;> simp
  · rw [if_neg h0]
    by_cases h1 : T < 0
    · rw [decide_eq_true h1]
      simp only [if_true]
      have : (T : Rat) = -((T.natAbs : Nat) : Rat) := by
        rw [← Rat.intCast_natCast, ← Rat.intCast_neg]
        congr 1
        omega
      rw [this]
      grind
    · rw [decide_eq_false h1]
      simp only [Bool.false_eq_true, if_false]
      have : (T : Rat) = ((T.natAbs : Nat) : Rat) := by
        rw [← Rat.intCast_natCast]
        congr 1
        omega
      rw [this]
theorem add_rnd {x y : Nat} (hx : IsFin f x) (hy : IsFin f y) (hl : Lim f (val f x + val f y)) : ∃ r, f.add x y = some r ∧ IsRnd f (val f x + val f y) r := by
  obtain ⟨s, m, i, e1, v1⟩ := read_fin f hx
  obtain ⟨t, n, j, e2, v2⟩ := read_fin f hy
  unfold Format.add
  rw [e1, e2]
  refine ⟨_, rfl, ?_⟩
  obtain ⟨b, hb⟩ : ∃ b, min i j = b := ⟨_, rfl⟩
  rw [← signed_val s m (b := b) (by omega)] at v1
  rw [← signed_val t n (b := b) (by omega)] at v2
  have e3 : val f x + val f y = ((signed s m (i - b).toNat + signed t n (j - b).toNat : Int) : Rat) * p2 b := by
    rw [v1, v2, Rat.intCast_add]
    grind
  rw [e3] at hl ⊢
  have := total_rnd f (s && t) _ b hl
  rw [← hb] at this ⊢
  exact this
theorem sub_rnd {x y : Nat} (hx : IsFin f x) (hy : IsFin f y) (hl : Lim f (val f x - val f y)) : ∃ r, f.sub x y = some r ∧ IsRnd f (val f x - val f y) r := by
  obtain ⟨s, m, i, e1, v1⟩ := read_fin f hx
  obtain ⟨t, n, j, e2, v2⟩ := read_fin f hy
  unfold Format.sub
  rw [e1, e2]
  refine ⟨_, rfl, ?_⟩
  obtain ⟨b, hb⟩ : ∃ b, min i j = b := ⟨_, rfl⟩
  rw [← signed_val s m (b := b) (by omega)] at v1
  have v3 : -val f y = ((signed (!t) n (j - b).toNat : Int) : Rat) * p2 b := by
    rw [signed_val (!t) n (b := b) (by omega), v2]
    cases t <;> simp
  have e3 : val f x - val f y = ((signed s m (i - b).toNat + signed (!t) n (j - b).toNat : Int) : Rat) * p2 b := by
    rw [Rat.intCast_add]
    grind
  rw [e3] at hl ⊢
  have := total_rnd f (s && !t) _ b hl
  rw [← hb] at this ⊢
  exact this
theorem mul_rnd {x y : Nat} (hx : IsFin f x) (hy : IsFin f y) (hl : Lim f (val f x * val f y)) : ∃ r, f.mul x y = some r ∧ IsRnd f (val f x * val f y) r := by
  obtain ⟨s, m, i, e1, v1⟩ := read_fin f hx
  obtain ⟨t, n, j, e2, v2⟩ := read_fin f hy
  unfold Format.mul
  rw [e1, e2]
  refine ⟨_, rfl, ?_⟩
  show IsRnd f _ (f.nearest (s ^^ t) (m * n) (i + j))
  apply nearest_rnd f _ _ _ _ hl
  rw [v1, v2, p2_add, Rat.natCast_mul]
  cases s <;> cases t <;> simp <;> grind
/-- Above q units of at least as many digits as the format has, the next number is a whole unit off. -/
theorem rung_next {q : Nat} {g : Int} {rc : Nat} (hq : 2 ^ (f.fractionBits + 1) ≤ q) (h : (q : Rat) * p2 g < rv f rc) : ((q + 1 : Nat) : Rat) * p2 g ≤ rv f rc := by
  unfold rv at h ⊢
  rw [magV_maq, Rat.natCast_mul, ← p2_nat, Rat.mul_assoc, ← p2_add] at h ⊢
  obtain ⟨m, hm⟩ : ∃ m, maq f.binade rc = m := ⟨_, rfl⟩
  obtain ⟨e, he⟩ : ∃ e : Int, ((exq f.binade rc : Nat) : Int) + f.leastPlace = e := ⟨_, rfl⟩
  rw [hm, he] at h ⊢
  have hB : 0 < f.binade := Nat.two_pow_pos _
  have hm2 : m < 2 ^ (f.fractionBits + 1) := by
    rw [← hm, Nat.pow_succ]
    unfold maq
    rw [cond_ble]
    have hb : f.binade = 2 ^ f.fractionBits := rfl
    have := Nat.mod_lt rc hB
    split
    · show f.binade + rc % f.binade < _
      omega
    · omega
  by_cases hge : g ≤ e
  · obtain ⟨d, hd⟩ : ∃ d : Nat, e = (d : Int) + g := ⟨(e - g).toNat, by omega⟩
    rw [hd, p2_add, p2_nat, ← Rat.mul_assoc, ← Rat.natCast_mul] at h ⊢
    have h1 : q < m * 2 ^ d := by
      rcases Nat.lt_or_ge q (m * 2 ^ d) with c | c
      · exact c
      · exfalso
        have := Rat.mul_le_mul_of_nonneg_right (Rat.natCast_le_natCast.2 c) (Rat.le_of_lt (p2_pos g))
        grind
    exact Rat.mul_le_mul_of_nonneg_right (Rat.natCast_le_natCast.2 h1) (Rat.le_of_lt (p2_pos g))
  · exfalso
    have h1 : p2 e ≤ p2 g := p2_le (by omega)
    have h2 : (m : Rat) ≤ (q : Rat) := Rat.natCast_le_natCast.2 (by omega)
    have h3 := Rat.mul_le_mul_of_nonneg_left h1 (Rat.natCast_nonneg (a := m))
    have h4 := Rat.mul_le_mul_of_nonneg_right h2 (Rat.le_of_lt (p2_pos g))
    grind
theorem sticky_le {q st : Nat} {g : Int} {X : Rat} (hst : st ≤ 1) (h0 : st = 0 → X = (q : Rat) * p2 g) (h1 : st = 1 → (q : Rat) * p2 g < X ∧ X < ((q + 1 : Nat) : Rat) * p2 g) (hq : st = 1 → 2 ^ (f.fractionBits + 1) ≤ q) {rc : Nat} (hrc : rc < f.infRung) (h : X ≤ rv f rc) : rungP f (2 * q + st) (g - 1) ≤ rc := by
  apply rung_le_of f hrc
  have hg : p2 g = 2 * p2 (g - 1) := by
    have : p2 (1 + (g - 1)) = p2 1 * p2 (g - 1) := p2_add _ _
    rw [show 1 + (g - 1) = g by omega] at this
    rw [this]
    congr 1
  have hgp := p2_pos (g - 1)
  obtain ⟨u, hu⟩ : ∃ u, p2 (g - 1) = u := ⟨_, rfl⟩
  have hg2 := hg
  rw [hu] at hg hgp ⊢
  rw [hg] at h0 h1
  have e1 : ((2 * q + st : Nat) : Rat) = 2 * (q : Rat) + (st : Rat) := by
    rw [Rat.natCast_add, Rat.natCast_mul]
    rfl
  rw [e1]
  rcases Nat.eq_zero_or_pos st with c | c
  · have := h0 c
    subst c
    grind
  · obtain rfl : st = 1 := by omega
    have hn := rung_next f (hq rfl) (rc := rc) (g := g) (by rw [hg]; have := (h1 rfl).1; grind)
    have e2 : ((q + 1 : Nat) : Rat) = (q : Rat) + 1 := by rw [Rat.natCast_add]; rfl
    rw [e2, hg] at hn
    have e3 : ((1 : Nat) : Rat) = 1 := rfl
    grind
theorem sticky_ge {q st : Nat} {g : Int} {X : Rat} (hst : st ≤ 1) (h0 : st = 0 → X = (q : Rat) * p2 g) (h1 : st = 1 → (q : Rat) * p2 g < X ∧ X < ((q + 1 : Nat) : Rat) * p2 g) (hq : st = 1 → 2 ^ (f.fractionBits + 1) ≤ q) {rc : Nat} (hrc : rc < f.infRung) (h : rv f rc ≤ X) : rc ≤ rungP f (2 * q + st) (g - 1) := by
  apply rung_ge_of f hrc
  have hg : p2 g = 2 * p2 (g - 1) := by
    have : p2 (1 + (g - 1)) = p2 1 * p2 (g - 1) := p2_add _ _
    rw [show 1 + (g - 1) = g by omega] at this
    rw [this]
    congr 1
  have hgp := p2_pos (g - 1)
  obtain ⟨u, hu⟩ : ∃ u, p2 (g - 1) = u := ⟨_, rfl⟩
  have hg2 := hg
  rw [hu] at hg hgp ⊢
  rw [hg] at h0 h1
  have e1 : ((2 * q + st : Nat) : Rat) = 2 * (q : Rat) + (st : Rat) := by
    rw [Rat.natCast_add, Rat.natCast_mul]
    rfl
  rw [e1]
  rcases Nat.eq_zero_or_pos st with c | c
  · have := h0 c
    subst c
    grind
  · obtain rfl : st = 1 := by omega
    have e3 : ((1 : Nat) : Rat) = 1 := rfl
    have e2 : ((q + 1 : Nat) : Rat) = (q : Rat) + 1 := by rw [Rat.natCast_add]; rfl
    rcases (Rat.le_total : rv f rc ≤ (q : Rat) * (2 * u) ∨ (q : Rat) * (2 * u) ≤ rv f rc) with k | k
    · grind
    · by_cases k2 : rv f rc = (q : Rat) * (2 * u)
      · grind
      · have hn := rung_next f (hq rfl) (rc := rc) (g := g) (by rw [hg]; grind)
        have := (h1 rfl).2
        rw [e2] at this
        rw [e2, hg] at hn
        grind
theorem div_rnd {x y : Nat} (hx : IsFin f x) (hy : IsFin f y) (hy0 : val f y ≠ 0) (hl : Lim f (val f x / val f y)) : ∃ r, f.div x y = some r ∧ IsRnd f (val f x / val f y) r := by
  obtain ⟨s, m, i, e1, v1⟩ := read_fin f hx
  obtain ⟨t, n, j, e2, v2⟩ := read_fin f hy
  have hn0 : n ≠ 0 := by
    rintro rfl
    apply hy0
    rw [v2]
    cases t <;> simp
  unfold Format.div
  rw [e1, e2, quotient_num _ _ _ _ _ _ hn0]
  refine ⟨_, rfl, ?_⟩
  obtain ⟨more, hmore⟩ : ∃ a, f.fractionBits + 2 + n.log2 - m.log2 = a := ⟨_, rfl⟩
  rw [hmore]
  show IsRnd f _ (f.nearest (s ^^ t) (2 * (m <<< more / n) + (m <<< more % n != 0).toNat) (i - j - (more : Int) - 1))
  obtain ⟨D, hD⟩ : ∃ D, m <<< more = D := ⟨_, rfl⟩
  obtain ⟨st, hst⟩ : ∃ st, (D % n != 0).toNat = st := ⟨_, rfl⟩
  obtain ⟨g, hg⟩ : ∃ g : Int, i - j - (more : Int) = g := ⟨_, rfl⟩
  rw [hD, hst, hg, nearest_rung]
  have hnp : 0 < (n : Rat) := Rat.natCast_pos.2 (by omega)
  have hgp := p2_pos g
  -- the quotient of magnitudes
  obtain ⟨X, hX⟩ : ∃ X : Rat, (D : Rat) * p2 g / (n : Rat) = X := ⟨_, rfl⟩
  have hXn : X * (n : Rat) = (D : Rat) * p2 g := by rw [← hX]; grind
  have hDr : (D : Rat) = (m : Rat) * p2 (more : Int) := by rw [← hD, Nat.shiftLeft_eq, Rat.natCast_mul, p2_nat]
  have hmi : (m : Rat) * p2 i = X * ((n : Rat) * p2 j) := by
    have : p2 i = p2 (more : Int) * p2 g * p2 j := by rw [← p2_add, ← p2_add]; congr 1; omega
    rw [this]
    grind
  have hjp := p2_pos j
  have hxe : val f x / val f y = if (s ^^ t) then -X else X := by
    have hne : (n : Rat) * p2 j ≠ 0 := by
      have := Rat.mul_pos hnp hjp
      grind
    rw [v1, v2, hmi]
    cases s <;> cases t <;> simp <;> grind
  have hdm := Nat.div_add_mod D n
  have hlt := Nat.mod_lt D (show 0 < n by omega)
  have hDq : (D : Rat) = (n : Rat) * ((D / n : Nat) : Rat) + ((D % n : Nat) : Rat) := by
    rw [← Rat.natCast_mul, ← Rat.natCast_add, hdm]
  have hst1 : st ≤ 1 := by rw [← hst]; cases (D % n != 0) <;> decide
  have h0 : st = 0 → X = ((D / n : Nat) : Rat) * p2 g := by
    intro c
    have : D % n = 0 := by
      cases e : D % n with
      | zero => rfl
      | succ k => rw [e] at hst; rw [← hst] at c; cases c
    rw [this] at hDq
    have e0 : ((0 : Nat) : Rat) = 0 := rfl
    have : X * (n : Rat) = ((D / n : Nat) : Rat) * p2 g * (n : Rat) := by rw [hXn, hDq]; grind
    rw [← hX, hDq]
    grind
  have h1 : st = 1 → ((D / n : Nat) : Rat) * p2 g < X ∧ X < ((D / n + 1 : Nat) : Rat) * p2 g := by
    intro c
    have hr0 : 0 < D % n := by
      rcases Nat.eq_zero_or_pos (D % n) with e | e
      · rw [e] at hst; rw [← hst] at c; cases c
      · exact e
    have hr1 : 0 < ((D % n : Nat) : Rat) := Rat.natCast_pos.2 hr0
    have hr2 : ((D % n : Nat) : Rat) < (n : Rat) := Rat.natCast_lt_natCast.2 hlt
    have e2 : ((D / n + 1 : Nat) : Rat) = ((D / n : Nat) : Rat) + 1 := by rw [Rat.natCast_add]; rfl
    rw [e2]
    have k1 := Rat.mul_pos hr1 hgp
    have k2 : 0 < ((n : Rat) - ((D % n : Nat) : Rat)) * p2 g := Rat.mul_pos (by grind) hgp
    have hXn2 : X * (n : Rat) = (n : Rat) * ((D / n : Nat) : Rat) * p2 g + ((D % n : Nat) : Rat) * p2 g := by rw [hXn, hDq]; grind
    constructor
    · by_cases k : X ≤ ((D / n : Nat) : Rat) * p2 g
      · have := Rat.mul_le_mul_of_nonneg_right k (Rat.le_of_lt hnp)
        grind
      · grind
    · by_cases k : (((D / n : Nat) : Rat) + 1) * p2 g ≤ X
      · have := Rat.mul_le_mul_of_nonneg_right k (Rat.le_of_lt hnp)
        grind
      · grind
  have hq : st = 1 → 2 ^ (f.fractionBits + 1) ≤ D / n := by
    intro c
    have hm0 : m ≠ 0 := by
      rintro rfl
      rw [Nat.zero_shiftLeft] at hD
      rw [← hD, Nat.zero_mod] at hst
      rw [← hst] at c
      cases c
    rw [Nat.le_div_iff_mul_le (by omega), ← hD, Nat.shiftLeft_eq]
    have a1 := Nat.log2_self_le hm0
    have b2 : n < 2 ^ (n.log2 + 1) := Nat.lt_log2_self
    calc 2 ^ (f.fractionBits + 1) * n ≤ 2 ^ (f.fractionBits + 1) * 2 ^ (n.log2 + 1) := Nat.mul_le_mul_left _ (Nat.le_of_lt b2)
      _ = 2 ^ (f.fractionBits + 2 + n.log2) := by rw [← Nat.pow_add]; congr 1; omega
      _ ≤ 2 ^ (m.log2 + more) := Nat.pow_le_pow_right (by omega) (by omega)
      _ = 2 ^ m.log2 * 2 ^ more := Nat.pow_add _ _ _
      _ ≤ m * 2 ^ more := Nat.mul_le_mul_right _ a1
  have hX0 : 0 ≤ X := by
    rcases (Rat.le_total : 0 ≤ X ∨ X ≤ 0) with k | k
    · exact k
    · have h1 := Rat.mul_le_mul_of_nonneg_right k (Rat.le_of_lt hnp)
      have h2 : 0 ≤ (D : Rat) * p2 g := Rat.mul_nonneg Rat.natCast_nonneg (Rat.le_of_lt hgp)
      have h3 : (D : Rat) * p2 g = 0 := by grind
      rw [← hX, h3]
      grind
  exact word_rnd f _ hX0 hxe (fun rc hrc h => sticky_le f hst1 h0 h1 hq hrc h) (fun rc hrc h => sticky_ge f hst1 h0 h1 hq hrc h) hl
end
end Go.Proofs.Ytkldgcgijkfpaaa.Num
