/- Plain law: floats as rational numbers; rounding keeps a number between those of the format that it lies between. -/
import Derived.Test.YtkldgcgijkfpaaaFk
namespace Go.Proofs.Ytkldgcgijkfpaaa.Num
open Ieee
open Go.Proofs.Ytkldgcgijkfpaaa.Rnd Go.Proofs.Ytkldgcgijkfpaaa.Quick

/-- Two to a power. -/
def p2 (e : Int) : Rat := (2 : Rat) ^ e
theorem p2_pos (e : Int) : 0 < p2 e := Rat.zpow_pos (show (0 : Rat) < 2 by decide)
theorem p2_add (a b : Int) : p2 (a + b) = p2 a * p2 b := Rat.zpow_add (show (2 : Rat) ≠ 0 by decide) a b
theorem p2_nat (n : Nat) : p2 (n : Int) = ((2 ^ n : Nat) : Rat) := by
  show (2 : Rat) ^ n = _
  rw [Rat.natCast_pow]
  rfl
theorem p2_le {a b : Int} (h : a ≤ b) : p2 a ≤ p2 b := by
  obtain ⟨k, rfl⟩ : ∃ k : Nat, b = a + k := ⟨(b - a).toNat, by omega⟩
  rw [p2_add, p2_nat]
  have h1 : (1 : Rat) ≤ ((2 ^ k : Nat) : Rat) := by
    have : (1 : Nat) ≤ 2 ^ k := Nat.one_le_two_pow
    exact_mod_cast Rat.natCast_le_natCast.2 this
  have := Rat.mul_le_mul_of_nonneg_left h1 (Rat.le_of_lt (p2_pos a))
  rw [Rat.mul_one] at this
  exact this
theorem rat_cancel {a b c : Rat} (hc : 0 < c) (h : a * c ≤ b * c) : a ≤ b := by
  rcases (Rat.le_total : a ≤ b ∨ b ≤ a) with h1 | h1
  · exact h1
  · have h2 := Rat.mul_le_mul_of_nonneg_right h1 (Rat.le_of_lt hc)
    have h3 : (a - b) * c = 0 := by grind
    rcases Rat.mul_eq_zero.1 h3 with h4 | h4
    · grind
    · grind
/-- Magnitudes compared, over one place. -/
theorem dy_le {n m : Nat} {p q b : Int} (hp : b ≤ p) (hq : b ≤ q) : (n : Rat) * p2 p ≤ (m : Rat) * p2 q ↔ n * 2 ^ (p - b).toNat ≤ m * 2 ^ (q - b).toNat := by
  have e1 : p2 p = p2 ((p - b).toNat : Nat) * p2 b := by rw [← p2_add]; congr 1; omega
  have e2 : p2 q = p2 ((q - b).toNat : Nat) * p2 b := by rw [← p2_add]; congr 1; omega
  rw [e1, e2, p2_nat, p2_nat, ← Rat.mul_assoc, ← Rat.mul_assoc, ← Rat.natCast_mul, ← Rat.natCast_mul]
  constructor
  · intro h
    exact Rat.natCast_le_natCast.1 (rat_cancel (p2_pos b) h)
  · intro h
    exact Rat.mul_le_mul_of_nonneg_right (Rat.natCast_le_natCast.2 h) (Rat.le_of_lt (p2_pos b))
section
variable (f : Format)
/-- A finite word. -/
def IsFin (w : Nat) : Prop := w % f.signWeight < f.infRung
/-- The magnitude of a rung. -/
def rv (r : Nat) : Rat := (magV f r : Rat) * p2 f.leastPlace
/-- The number that a finite word stands for. -/
def val (w : Nat) : Rat := if w / f.signWeight % 2 = 1 then -rv f (w % f.signWeight) else rv f (w % f.signWeight)
theorem rv_nonneg (r : Nat) : 0 ≤ rv f r := Rat.mul_nonneg Rat.natCast_nonneg (Rat.le_of_lt (p2_pos _))
theorem rv_zero : rv f 0 = 0 := by
  have hB : 0 < f.binade := Nat.two_pow_pos _
  unfold rv magV
  rw [if_pos hB]
  exact Rat.zero_mul _
theorem rv_mono {a b : Nat} (h : a ≤ b) : rv f a ≤ rv f b := Rat.mul_le_mul_of_nonneg_right (Rat.natCast_le_natCast.2 (magV_mono f h)) (Rat.le_of_lt (p2_pos _))
/-- The numbers of the format. -/
def Rep (u : Rat) : Prop := ∃ r, r < f.infRung ∧ (u = rv f r ∨ u = -rv f r)
theorem Rep.neg {u : Rat} (h : Rep f u) : Rep f (-u) := by
  obtain ⟨r, hr, h | h⟩ := h
  · exact ⟨r, hr, .inr (by rw [h])⟩
  · exact ⟨r, hr, .inl (by rw [h]; grind)⟩
theorem rep_val {w : Nat} (h : IsFin f w) : Rep f (val f w) := by
  unfold val
  split
  · exact ⟨_, h, .inr rfl⟩
  · exact ⟨_, h, .inl rfl⟩
theorem magV_maq (r : Nat) : magV f r = maq f.binade r * 2 ^ (exq f.binade r) := by
  unfold magV maq exq
  rw [cond_ble]
  have hB : 0 < f.binade := Nat.two_pow_pos _
  by_cases h : r < f.binade
  · rw [if_pos h, if_neg (by omega)]
    have : r.div f.binade = 0 := Nat.div_eq_of_lt h
    rw [this]
    exact (Nat.mul_one r).symm
  · rw [if_neg h, if_pos (by omega)]
    rfl
/-- A finite word, read: its sign, magnitude and place, and what it stands for. -/
theorem read_fin {w : Nat} (h : IsFin f w) : ∃ (s : Bool) (m : Nat) (p : Int), f.read w = .number s m p ∧ val f w = (if s then -((m : Rat) * p2 p) else (m : Rat) * p2 p) := by
  refine ⟨_, _, _, read_num f h, ?_⟩
  unfold val rv
  rw [magV_maq, Rat.natCast_mul, ← p2_nat, Rat.mul_assoc, ← p2_add, Int.add_comm]
  rcases Nat.mod_two_eq_zero_or_one (w / f.signWeight) with e | e
  · rw [e, if_neg (by omega)]; rfl
  · rw [e, if_pos rfl]; rfl
theorem val_word {s : Bool} {r : Nat} (hr : r < f.infRung) : IsFin f (f.word s r) ∧ val f (f.word s r) = if s then -rv f r else rv f r := by
  have hl := inf_lt f
  have hsw : 0 < f.signWeight := Nat.two_pow_pos _
  have e1 : f.word s r % f.signWeight = r := by
    unfold Format.word
    cases s
    · simp only [Bool.false_eq_true, if_false]; exact Nat.mod_eq_of_lt (by omega)
    · simp only [if_true]; rw [Nat.add_mod_left]; exact Nat.mod_eq_of_lt (by omega)
  have e2 : f.word s r / f.signWeight % 2 = s.toNat := by
    unfold Format.word
    cases s
    · simp only [Bool.false_eq_true, if_false]; rw [Nat.div_eq_of_lt (by omega)]; rfl
    · simp only [if_true]; rw [Nat.add_div_left _ hsw, Nat.div_eq_of_lt (by omega)]; rfl
  refine ⟨by unfold IsFin; rw [e1]; exact hr, ?_⟩
  unfold val
  rw [e1, e2]
  cases s <;> rfl
/-- The word w stands for x, rounded. -/
structure IsRnd (x : Rat) (w : Nat) : Prop where
  fin : IsFin f w
  lt : w < 2 ^ f.width
  le : ∀ u, Rep f u → x ≤ u → val f w ≤ u
  ge : ∀ u, Rep f u → u ≤ x → u ≤ val f w
theorem IsRnd.exact {x : Rat} {w : Nat} (h : IsRnd f x w) (hx : Rep f x) : val f w = x := by
  have := h.le x hx (Rat.le_refl)
  have := h.ge x hx (Rat.le_refl)
  grind
/-- Within the format's numbers. -/
def Lim (x : Rat) : Prop := ∃ U, Rep f U ∧ x ≤ U ∧ -U ≤ x
theorem rung_le_of {n rc : Nat} {p : Int} (hrc : rc < f.infRung) (h : (n : Rat) * p2 p ≤ rv f rc) : rungP f n p ≤ rc := by
  obtain ⟨b, hb⟩ : ∃ b, min p f.leastPlace = b := ⟨_, rfl⟩
  exact rungP_le f (b := b) (by omega) (by omega) (by omega) ((dy_le (by omega) (by omega)).1 h)
theorem rung_ge_of {n rc : Nat} {p : Int} (hrc : rc < f.infRung) (h : rv f rc ≤ (n : Rat) * p2 p) : rc ≤ rungP f n p := by
  obtain ⟨b, hb⟩ : ∃ b, min p f.leastPlace = b := ⟨_, rfl⟩
  exact rungP_ge f (b := b) (by omega) (by omega) (by omega) ((dy_le (by omega) (by omega)).1 h)
theorem nearest_rnd (s : Bool) (n : Nat) (p : Int) {x : Rat} (hx : x = if s then -((n : Rat) * p2 p) else (n : Rat) * p2 p) (hl : Lim f x) : IsRnd f x (f.nearest s n p) := by
  have hn : 0 ≤ (n : Rat) * p2 p := Rat.mul_nonneg Rat.natCast_nonneg (Rat.le_of_lt (p2_pos _))
  obtain ⟨U, hU, hU1, hU2⟩ := hl
  obtain ⟨rU, hrU, eU⟩ := hU
  have hrv := rv_nonneg f rU
  have hle : rungP f n p ≤ rU := by
    apply rung_le_of f hrU
    cases s <;> simp at hx <;> rcases eU with e | e <;> grind
  have hlt : rungP f n p < f.infRung := by omega
  rw [nearest_rung]
  have hv := val_word f (s := s) hlt
  refine ⟨hv.1, ?_, ?_, ?_⟩
  · exact f.word_lt s (by have := inf_lt f; omega)
  · rintro u ⟨r, hr, e⟩ hxu
    have hr0 := rv_nonneg f r
    rw [hv.2]
    have h0 := rv_nonneg f (rungP f n p)
    cases s
    · simp only [Bool.false_eq_true, if_false] at hx ⊢
      rcases e with e | e
      · have := rv_mono f (rung_le_of f hr (n := n) (p := p) (by grind))
        grind
      · have h1 : (n : Rat) * p2 p ≤ rv f 0 := by
          have := rv_zero f
          grind
        have := rv_mono f (rung_le_of f (by omega) h1)
        have := rv_zero f
        grind
    · simp only [if_true] at hx ⊢
      rcases e with e | e
      · grind
      · have := rv_mono f (rung_ge_of f hr (n := n) (p := p) (by grind))
        grind
  · rintro u ⟨r, hr, e⟩ hxu
    have hr0 := rv_nonneg f r
    rw [hv.2]
    have h0 := rv_nonneg f (rungP f n p)
    cases s
    · simp only [Bool.false_eq_true, if_false] at hx ⊢
      rcases e with e | e
      · have := rv_mono f (rung_ge_of f hr (n := n) (p := p) (by grind))
        grind
      · grind
    · simp only [if_true] at hx ⊢
      rcases e with e | e
      · have h1 : (n : Rat) * p2 p ≤ rv f 0 := by
          have := rv_zero f
          grind
        have := rv_mono f (rung_le_of f (by omega) h1)
        have := rv_zero f
        grind
      · have := rv_mono f (rung_le_of f hr (n := n) (p := p) (by grind))
        grind
/-- Few digits at a place are a number of the format. -/
theorem rep_mag {k : Nat} {e : Int} (hk : k ≤ 2 ^ (f.fractionBits + 1)) (h1 : f.leastPlace ≤ e) (h2 : e - f.leastPlace + 4 ≤ 2 ^ f.exponentBits) : ∃ r, r < f.infRung ∧ rv f r = (k : Rat) * p2 e := by
  obtain ⟨d, hd⟩ : ∃ d : Nat, e - f.leastPlace = d := ⟨(e - f.leastPlace).toNat, by omega⟩
  have hB : f.binade = 2 ^ f.fractionBits := rfl
  have hBp : 0 < f.binade := Nat.two_pow_pos _
  have h2' : d + 4 ≤ 2 ^ f.exponentBits := by
    have : ((2 ^ f.exponentBits : Nat) : Int) = (2 : Int) ^ f.exponentBits := by norm_cast
    omega
  suffices h : ∃ r, r < f.infRung ∧ magV f r = k * 2 ^ d by
    obtain ⟨r, hr, hm⟩ := h
    refine ⟨r, hr, ?_⟩
    unfold rv
    rw [hm, Rat.natCast_mul, ← p2_nat, Rat.mul_assoc, ← p2_add]
    congr 2
    omega
  have hinf : ∀ q m : Nat, q + 2 ≤ 2 ^ f.exponentBits → m < f.binade → q * f.binade + m < f.infRung := by
    intro q m hq hm
    unfold Format.infRung
    have : (q + 1) * f.binade ≤ (2 ^ f.exponentBits - 1) * f.binade := Nat.mul_le_mul_right _ (by omega)
    rw [Nat.add_mul] at this
    omega
  -- a mantissa of full length
  have full : ∀ m q : Nat, f.binade ≤ m → m < 2 * f.binade → q + 3 ≤ 2 ^ f.exponentBits → ∃ r, r < f.infRung ∧ magV f r = m * 2 ^ q := by
    intro m q hm1 hm2 hq
    refine ⟨(q + 1) * f.binade + (m - f.binade), hinf _ _ (by omega) (by omega), ?_⟩
    unfold magV
    have hge : ¬ (q + 1) * f.binade + (m - f.binade) < f.binade := by
      rw [Nat.add_mul]
      omega
    rw [if_neg hge]
    have e1 : ((q + 1) * f.binade + (m - f.binade)) % f.binade = m - f.binade := by
      rw [Nat.mul_add_mod_self_right, Nat.mod_eq_of_lt (by omega)]
    have e2 : ((q + 1) * f.binade + (m - f.binade)) / f.binade = q + 1 := by
      rw [Nat.mul_comm, Nat.mul_add_div hBp, Nat.div_eq_of_lt (by omega), Nat.add_zero]
    rw [e1, e2, Nat.add_sub_cancel]
    congr 1
    omega
  by_cases h0 : k = 0
  · refine ⟨0, ?_, ?_⟩
    · have := hinf 0 0 (by omega) hBp
      omega
    · unfold magV
      rw [if_pos hBp, h0, Nat.zero_mul]
  · rcases Nat.eq_or_lt_of_le hk with e1 | e1
    · -- the greatest one
      obtain ⟨r, hr, hm⟩ := full (2 ^ f.fractionBits) (d + 1) (Nat.le_refl _) (by omega) (by omega)
      refine ⟨r, hr, ?_⟩
      rw [hm, e1, ← Nat.pow_add, ← Nat.pow_add, show f.fractionBits + (d + 1) = f.fractionBits + 1 + d by omega]
    · have hl1 := Nat.log2_self_le h0
      have hl2 : k < 2 ^ (k.log2 + 1) := Nat.lt_log2_self
      have hl3 : k.log2 < f.fractionBits + 1 := (Nat.log2_lt h0).2 e1
      obtain ⟨c, hc⟩ : ∃ c, f.fractionBits = k.log2 + c := ⟨f.fractionBits - k.log2, by omega⟩
      by_cases hcd : c ≤ d
      · obtain ⟨r, hr, hm⟩ := full (k * 2 ^ c) (d - c) (by rw [hB, hc, Nat.pow_add]; exact Nat.mul_le_mul_right _ hl1) (by
          rw [hB, hc, Nat.pow_add, ← Nat.mul_assoc, ← Nat.pow_succ']
          exact (Nat.mul_lt_mul_right (Nat.two_pow_pos c)).2 hl2) (by omega)
        refine ⟨r, hr, ?_⟩
        rw [hm, Nat.mul_assoc, ← Nat.pow_add]
        congr 2
        omega
      · have hsm : k * 2 ^ d < f.binade := by
          rw [hB]
          calc k * 2 ^ d < 2 ^ (k.log2 + 1) * 2 ^ d := (Nat.mul_lt_mul_right (Nat.two_pow_pos d)).2 hl2
            _ = 2 ^ (k.log2 + 1 + d) := (Nat.pow_add _ _ _).symm
            _ ≤ 2 ^ f.fractionBits := Nat.pow_le_pow_right (by omega) (by omega)
        refine ⟨k * 2 ^ d, ?_, ?_⟩
        · have := hinf 0 (k * 2 ^ d) (by omega) hsm
          omega
        · unfold magV
          rw [if_pos hsm]
end
end Go.Proofs.Ytkldgcgijkfpaaa.Num

namespace Go.Proofs.Ytkldgcgijkfpaaa.Num
open Ieee
open Go.Proofs.Ytkldgcgijkfpaaa.Rnd Go.Proofs.Ytkldgcgijkfpaaa.Quick

section
variable (f : Format)
/-- A word whose rung is told by the numbers of the format around X. -/
theorem word_rnd (s : Bool) {R : Nat} {X x : Rat} (hX : 0 ≤ X) (hx : x = if s then -X else X) (h1 : ∀ rc, rc < f.infRung → X ≤ rv f rc → R ≤ rc) (h2 : ∀ rc, rc < f.infRung → rv f rc ≤ X → rc ≤ R) (hl : Lim f x) : IsRnd f x (f.word s R) := by
  obtain ⟨U, ⟨rU, hrU, eU⟩, hU1, hU2⟩ := hl
  have hrv := rv_nonneg f rU
  have hle : R ≤ rU := h1 rU hrU (by cases s <;> simp at hx <;> rcases eU with e | e <;> grind)
  have hlt : R < f.infRung := by omega
  have h0 : rv f 0 = 0 := rv_zero f
  have hv := val_word f (s := s) hlt
  refine ⟨hv.1, f.word_lt s (by have := inf_lt f; omega), ?_, ?_⟩
  · rintro u ⟨r, hr, e⟩ hxu
    have hr0 := rv_nonneg f r
    rw [hv.2]
    have hR0 := rv_nonneg f R
    cases s
    · simp only [Bool.false_eq_true, if_false] at hx ⊢
      rcases e with e | e
      · have := rv_mono f (h1 r hr (by grind))
        grind
      · have := rv_mono f (h1 0 (by omega) (by grind))
        grind
    · simp only [if_true] at hx ⊢
      rcases e with e | e
      · grind
      · have := rv_mono f (h2 r hr (by grind))
        grind
  · rintro u ⟨r, hr, e⟩ hxu
    have hr0 := rv_nonneg f r
    rw [hv.2]
    have hR0 := rv_nonneg f R
    cases s
    · simp only [Bool.false_eq_true, if_false] at hx ⊢
      rcases e with e | e
      · have := rv_mono f (h2 r hr (by grind))
        grind
      · grind
    · simp only [if_true] at hx ⊢
      rcases e with e | e
      · have := rv_mono f (h1 0 (by omega) (by grind))
        grind
      · have := rv_mono f (h1 r hr (by grind))
        grind
theorem signed_val (s : Bool) (m : Nat) {i b : Int} (h : b ≤ i) : ((signed s m (i - b).toNat : Int) : Rat) * p2 b = if s then -((m : Rat) * p2 i) else (m : Rat) * p2 i := by
  have e1 : p2 i = p2 ((i - b).toNat : Nat) * p2 b := by rw [← p2_add]; congr 1; omega
  rw [e1, p2_nat]
  unfold signed
  rw [Nat.shiftLeft_eq]
  cases s
  · simp only [Bool.false_eq_true, if_false, Rat.intCast_natCast, Rat.natCast_mul, Rat.mul_assoc]
  · simp only [if_true, Rat.intCast_neg, Rat.intCast_natCast, Rat.natCast_mul, Rat.mul_assoc]
    grind
theorem total_rnd (s0 : Bool) (T : Int) (b : Int) (hl : Lim f ((T : Rat) * p2 b)) : IsRnd f ((T : Rat) * p2 b) (f.nearest (if T = 0 then s0 else decide (T < 0)) T.natAbs b) := by
  apply nearest_rnd f _ _ _ _ hl
  by_cases h0 : T = 0
  · subst h0
    cases s0 <;> simp
  · rw [if_neg h0]
    by_cases h1 : T < 0
    · rw [decide_eq_true h1]
      simp only [if_true]
      have : (T : Rat) = -((T.natAbs : Nat) : Rat) := by
        rw [← Rat.intCast_natCast, ← Rat.intCast_neg]
        congr 1
        omega
      rw [this]
      grind
    · rw [decide_eq_false h1]
      simp only [Bool.false_eq_true, if_false]
      have : (T : Rat) = ((T.natAbs : Nat) : Rat) := by
        rw [← Rat.intCast_natCast]
        congr 1
        omega
      rw [this]
theorem add_rnd {x y : Nat} (hx : IsFin f x) (hy : IsFin f y) (hl : Lim f (val f x + val f y)) : ∃ r, f.add x y = some r ∧ IsRnd f (val f x + val f y) r := by
  obtain ⟨s, m, i, e1, v1⟩ := read_fin f hx
  obtain ⟨t, n, j, e2, v2⟩ := read_fin f hy
  unfold Format.add
  rw [e1, e2]
  refine ⟨_, rfl, ?_⟩
  obtain ⟨b, hb⟩ : ∃ b, min i j = b := ⟨_, rfl⟩
  rw [← signed_val s m (b := b) (by omega)] at v1
  rw [← signed_val t n (b := b) (by omega)] at v2
  have e3 : val f x + val f y = ((signed s m (i - b).toNat + signed t n (j - b).toNat : Int) : Rat) * p2 b := by
    rw [v1, v2, Rat.intCast_add]
    grind
  rw [e3] at hl ⊢
  have := total_rnd f (s && t) _ b hl
  rw [← hb] at this ⊢
  exact this
theorem sub_rnd {x y : Nat} (hx : IsFin f x) (hy : IsFin f y) (hl : Lim f (val f x - val f y)) : ∃ r, f.sub x y = some r ∧ IsRnd f (val f x - val f y) r := by
  obtain ⟨s, m, i, e1, v1⟩ := read_fin f hx
  obtain ⟨t, n, j, e2, v2⟩ := read_fin f hy
  unfold Format.sub
  rw [e1, e2]
  refine ⟨_, rfl, ?_⟩
  obtain ⟨b, hb⟩ : ∃ b, min i j = b := ⟨_, rfl⟩
  rw [← signed_val s m (b := b) (by omega)] at v1
  have v3 : -val f y = ((signed (!t) n (j - b).toNat : Int) : Rat) * p2 b := by
    rw [signed_val (!t) n (b := b) (by omega), v2]
    cases t <;> simp
  have e3 : val f x - val f y = ((signed s m (i - b).toNat + signed (!t) n (j - b).toNat : Int) : Rat) * p2 b := by
    rw [Rat.intCast_add]
    grind
  rw [e3] at hl ⊢
  have := total_rnd f (s && !t) _ b hl
  rw [← hb] at this ⊢
  exact this
theorem mul_rnd {x y : Nat} (hx : IsFin f x) (hy : IsFin f y) (hl : Lim f (val f x * val f y)) : ∃ r, f.mul x y = some r ∧ IsRnd f (val f x * val f y) r := by
  obtain ⟨s, m, i, e1, v1⟩ := read_fin f hx
  obtain ⟨t, n, j, e2, v2⟩ := read_fin f hy
  unfold Format.mul
  rw [e1, e2]
  refine ⟨_, rfl, ?_⟩
  show IsRnd f _ (f.nearest (s ^^ t) (m * n) (i + j))
  apply nearest_rnd f _ _ _ _ hl
  rw [v1, v2, p2_add, Rat.natCast_mul]
  cases s <;> cases t <;> simp <;> grind
/-- Above q units of at least as many digits as the format has, the next number is a whole unit off. -/
theorem rung_next {q : Nat} {g : Int} {rc : Nat} (hq : 2 ^ (f.fractionBits + 1) ≤ q) (h : (q : Rat) * p2 g < rv f rc) : ((q + 1 : Nat) : Rat) * p2 g ≤ rv f rc := by
  unfold rv at h ⊢
  rw [magV_maq, Rat.natCast_mul, ← p2_nat, Rat.mul_assoc, ← p2_add] at h ⊢
  obtain ⟨m, hm⟩ : ∃ m, maq f.binade rc = m := ⟨_, rfl⟩
  obtain ⟨e, he⟩ : ∃ e : Int, ((exq f.binade rc : Nat) : Int) + f.leastPlace = e := ⟨_, rfl⟩
  rw [hm, he] at h ⊢
  have hB : 0 < f.binade := Nat.two_pow_pos _
  have hm2 : m < 2 ^ (f.fractionBits + 1) := by
    rw [← hm, Nat.pow_succ]
    unfold maq
    rw [cond_ble]
    have hb : f.binade = 2 ^ f.fractionBits := rfl
    have := Nat.mod_lt rc hB
    split
    · show f.binade + rc % f.binade < _
      omega
    · omega
  by_cases hge : g ≤ e
  · obtain ⟨d, hd⟩ : ∃ d : Nat, e = (d : Int) + g := ⟨(e - g).toNat, by omega⟩
    rw [hd, p2_add, p2_nat, ← Rat.mul_assoc, ← Rat.natCast_mul] at h ⊢
    have h1 : q < m * 2 ^ d := by
      rcases Nat.lt_or_ge q (m * 2 ^ d) with c | c
      · exact c
      · exfalso
        have := Rat.mul_le_mul_of_nonneg_right (Rat.natCast_le_natCast.2 c) (Rat.le_of_lt (p2_pos g))
        grind
    exact Rat.mul_le_mul_of_nonneg_right (Rat.natCast_le_natCast.2 h1) (Rat.le_of_lt (p2_pos g))
  · exfalso
    have h1 : p2 e ≤ p2 g := p2_le (by omega)
    have h2 : (m : Rat) ≤ (q : Rat) := Rat.natCast_le_natCast.2 (by omega)
    have h3 := Rat.mul_le_mul_of_nonneg_left h1 (Rat.natCast_nonneg (a := m))
    have h4 := Rat.mul_le_mul_of_nonneg_right h2 (Rat.le_of_lt (p2_pos g))
    grind
theorem sticky_le {q st : Nat} {g : Int} {X : Rat} (hst : st ≤ 1) (h0 : st = 0 → X = (q : Rat) * p2 g) (h1 : st = 1 → (q : Rat) * p2 g < X ∧ X < ((q + 1 : Nat) : Rat) * p2 g) (hq : st = 1 → 2 ^ (f.fractionBits + 1) ≤ q) {rc : Nat} (hrc : rc < f.infRung) (h : X ≤ rv f rc) : rungP f (2 * q + st) (g - 1) ≤ rc := by
  apply rung_le_of f hrc
  have hg : p2 g = 2 * p2 (g - 1) := by
    have : p2 (1 + (g - 1)) = p2 1 * p2 (g - 1) := p2_add _ _
    rw [show 1 + (g - 1) = g by omega] at this
    rw [this]
    congr 1
  have hgp := p2_pos (g - 1)
  obtain ⟨u, hu⟩ : ∃ u, p2 (g - 1) = u := ⟨_, rfl⟩
  have hg2 := hg
  rw [hu] at hg hgp ⊢
  rw [hg] at h0 h1
  have e1 : ((2 * q + st : Nat) : Rat) = 2 * (q : Rat) + (st : Rat) := by
    rw [Rat.natCast_add, Rat.natCast_mul]
    rfl
  rw [e1]
  rcases Nat.eq_zero_or_pos st with c | c
  · have := h0 c
    subst c
    grind
  · obtain rfl : st = 1 := by omega
    have hn := rung_next f (hq rfl) (rc := rc) (g := g) (by rw [hg]; have := (h1 rfl).1; grind)
    have e2 : ((q + 1 : Nat) : Rat) = (q : Rat) + 1 := by rw [Rat.natCast_add]; rfl
    rw [e2, hg] at hn
    have e3 : ((1 : Nat) : Rat) = 1 := rfl
    grind
theorem sticky_ge {q st : Nat} {g : Int} {X : Rat} (hst : st ≤ 1) (h0 : st = 0 → X = (q : Rat) * p2 g) (h1 : st = 1 → (q : Rat) * p2 g < X ∧ X < ((q + 1 : Nat) : Rat) * p2 g) (hq : st = 1 → 2 ^ (f.fractionBits + 1) ≤ q) {rc : Nat} (hrc : rc < f.infRung) (h : rv f rc ≤ X) : rc ≤ rungP f (2 * q + st) (g - 1) := by
  apply rung_ge_of f hrc
  have hg : p2 g = 2 * p2 (g - 1) := by
    have : p2 (1 + (g - 1)) = p2 1 * p2 (g - 1) := p2_add _ _
    rw [show 1 + (g - 1) = g by omega] at this
    rw [this]
    congr 1
  have hgp := p2_pos (g - 1)
  obtain ⟨u, hu⟩ : ∃ u, p2 (g - 1) = u := ⟨_, rfl⟩
  have hg2 := hg
  rw [hu] at hg hgp ⊢
  rw [hg] at h0 h1
  have e1 : ((2 * q + st : Nat) : Rat) = 2 * (q : Rat) + (st : Rat) := by
    rw [Rat.natCast_add, Rat.natCast_mul]
    rfl
  rw [e1]
  rcases Nat.eq_zero_or_pos st with c | c
  · have := h0 c
    subst c
    grind
  · obtain rfl : st = 1 := by omega
    have e3 : ((1 : Nat) : Rat) = 1 := rfl
    have e2 : ((q + 1 : Nat) : Rat) = (q : Rat) + 1 := by rw [Rat.natCast_add]; rfl
    rcases (Rat.le_total : rv f rc ≤ (q : Rat) * (2 * u) ∨ (q : Rat) * (2 * u) ≤ rv f rc) with k | k
    · grind
    · by_cases k2 : rv f rc = (q : Rat) * (2 * u)
      · grind
      · have hn := rung_next f (hq rfl) (rc := rc) (g := g) (by rw [hg]; grind)
        have := (h1 rfl).2
        rw [e2] at this
        rw [e2, hg] at hn
        grind
theorem div_rnd {x y : Nat} (hx : IsFin f x) (hy : IsFin f y) (hy0 : val f y ≠ 0) (hl : Lim f (val f x / val f y)) : ∃ r, f.div x y = some r ∧ IsRnd f (val f x / val f y) r := by
  obtain ⟨s, m, i, e1, v1⟩ := read_fin f hx
  obtain ⟨t, n, j, e2, v2⟩ := read_fin f hy
  have hn0 : n ≠ 0 := by
    rintro rfl
    apply hy0
    rw [v2]
    cases t <;> simp
  unfold Format.div
  rw [e1, e2, quotient_num _ _ _ _ _ _ hn0]
  refine ⟨_, rfl, ?_⟩
  obtain ⟨more, hmore⟩ : ∃ a, f.fractionBits + 2 + n.log2 - m.log2 = a := ⟨_, rfl⟩
  rw [hmore]
  show IsRnd f _ (f.nearest (s ^^ t) (2 * (m <<< more / n) + (m <<< more % n != 0).toNat) (i - j - (more : Int) - 1))
  obtain ⟨D, hD⟩ : ∃ D, m <<< more = D := ⟨_, rfl⟩
  obtain ⟨st, hst⟩ : ∃ st, (D % n != 0).toNat = st := ⟨_, rfl⟩
  obtain ⟨g, hg⟩ : ∃ g : Int, i - j - (more : Int) = g := ⟨_, rfl⟩
  rw [hD, hst, hg, nearest_rung]
  have hnp : 0 < (n : Rat) := Rat.natCast_pos.2 (by omega)
  have hgp := p2_pos g
  -- the quotient of magnitudes
  obtain ⟨X, hX⟩ : ∃ X : Rat, (D : Rat) * p2 g / (n : Rat) = X := ⟨_, rfl⟩
  have hXn : X * (n : Rat) = (D : Rat) * p2 g := by rw [← hX]; grind
  have hDr : (D : Rat) = (m : Rat) * p2 (more : Int) := by rw [← hD, Nat.shiftLeft_eq, Rat.natCast_mul, p2_nat]
  have hmi : (m : Rat) * p2 i = X * ((n : Rat) * p2 j) := by
    have : p2 i = p2 (more : Int) * p2 g * p2 j := by rw [← p2_add, ← p2_add]; congr 1; omega
    rw [this]
    grind
  have hjp := p2_pos j
  have hxe : val f x / val f y = if (s ^^ t) then -X else X := by
    have hne : (n : Rat) * p2 j ≠ 0 := by
      have := Rat.mul_pos hnp hjp
      grind
    rw [v1, v2, hmi]
    cases s <;> cases t <;> simp <;> grind
  have hdm := Nat.div_add_mod D n
  have hlt := Nat.mod_lt D (show 0 < n by omega)
  have hDq : (D : Rat) = (n : Rat) * ((D / n : Nat) : Rat) + ((D % n : Nat) : Rat) := by
    rw [← Rat.natCast_mul, ← Rat.natCast_add, hdm]
  have hst1 : st ≤ 1 := by rw [← hst]; cases (D % n != 0) <;> decide
  have h0 : st = 0 → X = ((D / n : Nat) : Rat) * p2 g := by
    intro c
    have : D % n = 0 := by
      cases e : D % n with
      | zero => rfl
      | succ k => rw [e] at hst; rw [← hst] at c; cases c
    rw [this] at hDq
    have e0 : ((0 : Nat) : Rat) = 0 := rfl
    have : X * (n : Rat) = ((D / n : Nat) : Rat) * p2 g * (n : Rat) := by rw [hXn, hDq]; grind
    rw [← hX, hDq]
    grind
  have h1 : st = 1 → ((D / n : Nat) : Rat) * p2 g < X ∧ X < ((D / n + 1 : Nat) : Rat) * p2 g := by
    intro c
    have hr0 : 0 < D % n := by
      rcases Nat.eq_zero_or_pos (D % n) with e | e
      · rw [e] at hst; rw [← hst] at c; cases c
      · exact e
    have hr1 : 0 < ((D % n : Nat) : Rat) := Rat.natCast_pos.2 hr0
    have hr2 : ((D % n : Nat) : Rat) < (n : Rat) := Rat.natCast_lt_natCast.2 hlt
    have e2 : ((D / n + 1 : Nat) : Rat) = ((D / n : Nat) : Rat) + 1 := by rw [Rat.natCast_add]; rfl
    rw [e2]
    have k1 := Rat.mul_pos hr1 hgp
    have k2 : 0 < ((n : Rat) - ((D % n : Nat) : Rat)) * p2 g := Rat.mul_pos (by grind) hgp
    have hXn2 : X * (n : Rat) = (n : Rat) * ((D / n : Nat) : Rat) * p2 g + ((D % n : Nat) : Rat) * p2 g := by rw [hXn, hDq]; grind
    constructor
    · by_cases k : X ≤ ((D / n : Nat) : Rat) * p2 g
      · have := Rat.mul_le_mul_of_nonneg_right k (Rat.le_of_lt hnp)
        grind
      · grind
    · by_cases k : (((D / n : Nat) : Rat) + 1) * p2 g ≤ X
      · have := Rat.mul_le_mul_of_nonneg_right k (Rat.le_of_lt hnp)
        grind
      · grind
  have hq : st = 1 → 2 ^ (f.fractionBits + 1) ≤ D / n := by
    intro c
    have hm0 : m ≠ 0 := by
      rintro rfl
      rw [Nat.zero_shiftLeft] at hD
      rw [← hD, Nat.zero_mod] at hst
      rw [← hst] at c
      cases c
    rw [Nat.le_div_iff_mul_le (by omega), ← hD, Nat.shiftLeft_eq]
    have a1 := Nat.log2_self_le hm0
    have b2 : n < 2 ^ (n.log2 + 1) := Nat.lt_log2_self
    calc 2 ^ (f.fractionBits + 1) * n ≤ 2 ^ (f.fractionBits + 1) * 2 ^ (n.log2 + 1) := Nat.mul_le_mul_left _ (Nat.le_of_lt b2)
      _ = 2 ^ (f.fractionBits + 2 + n.log2) := by rw [← Nat.pow_add]; congr 1; omega
      _ ≤ 2 ^ (m.log2 + more) := Nat.pow_le_pow_right (by omega) (by omega)
      _ = 2 ^ m.log2 * 2 ^ more := Nat.pow_add _ _ _
      _ ≤ m * 2 ^ more := Nat.mul_le_mul_right _ a1
  have hX0 : 0 ≤ X := by
    rcases (Rat.le_total : 0 ≤ X ∨ X ≤ 0) with k | k
    · exact k
    · have h1 := Rat.mul_le_mul_of_nonneg_right k (Rat.le_of_lt hnp)
      have h2 : 0 ≤ (D : Rat) * p2 g := Rat.mul_nonneg Rat.natCast_nonneg (Rat.le_of_lt hgp)
      have h3 : (D : Rat) * p2 g = 0 := by grind
      rw [← hX, h3]
      grind
  exact word_rnd f _ hX0 hxe (fun rc hrc h => sticky_le f hst1 h0 h1 hq hrc h) (fun rc hrc h => sticky_ge f hst1 h0 h1 hq hrc h) hl
end
end Go.Proofs.Ytkldgcgijkfpaaa.Num

namespace Go.Proofs.Ytkldgcgijkfpaaa.Num
open Ieee
open Go.Proofs.Ytkldgcgijkfpaaa.Rnd Go.Proofs.Ytkldgcgijkfpaaa.Quick

theorem sq_le {a b : Rat} (hb : 0 ≤ b) (h : a * a ≤ b * b) : a ≤ b := by
  by_cases c : a ≤ b
  · exact c
  · exfalso
    have h1 : 0 < a - b := by grind
    have h2 := Rat.mul_pos h1 h1
    have h3 := Rat.mul_nonneg hb (Rat.le_of_lt h1)
    grind
theorem sq_lt' {a b : Rat} (hb : 0 ≤ b) (h : a * a < b * b) : a < b := by
  by_cases c : a < b
  · exact c
  · exfalso
    have h1 : 0 ≤ a - b := by grind
    have h2 := Rat.mul_nonneg h1 h1
    have h3 := Rat.mul_nonneg hb h1
    grind
theorem le_sq {a b : Rat} (ha : 0 ≤ a) (h : a ≤ b) : a * a ≤ b * b := by
  have h1 := Rat.mul_nonneg ha (show 0 ≤ b - a by grind)
  have h2 := Rat.mul_nonneg (show 0 ≤ b by grind) (show 0 ≤ b - a by grind)
  grind
section
variable (f : Format)
/-- The word w stands for the root of x, rounded. -/
structure IsRoot (x : Rat) (w : Nat) : Prop where
  fin : IsFin f w
  lt : w < 2 ^ f.width
  nonneg : 0 ≤ val f w
  le : ∀ u, Rep f u → 0 ≤ u → x ≤ u * u → val f w ≤ u
  ge : ∀ u, Rep f u → 0 ≤ u → u * u ≤ x → u ≤ val f w
theorem rv_rep_nonneg {u : Rat} (h : Rep f u) (h0 : 0 ≤ u) : ∃ r, r < f.infRung ∧ u = rv f r := by
  obtain ⟨r, hr, e | e⟩ := h
  · exact ⟨r, hr, e⟩
  · have := rv_nonneg f r
    refine ⟨0, by omega, ?_⟩
    rw [rv_zero]
    grind
theorem sqrt_root {x : Nat} (hx : IsFin f x) (h0 : 0 ≤ val f x) (hl : ∃ U, Rep f U ∧ 0 ≤ U ∧ val f x ≤ U * U) : ∃ r, f.sqrt x = some r ∧ IsRoot f (val f x) r := by
  obtain ⟨s, m, i, e1, v1⟩ := read_fin f hx
  obtain ⟨U, hU, hU0, hUx⟩ := hl
  obtain ⟨rU, hrU, eU⟩ := rv_rep_nonneg f hU hU0
  have hi := inf_lt f
  unfold Format.sqrt
  rw [e1]
  by_cases hm0 : m = 0
  · subst hm0
    refine ⟨f.nearest s 0 i, by unfold Datum.root; simp only [if_true]; rfl, ?_⟩
    have hv0 : val f x = 0 := by rw [v1]; cases s <;> simp
    rw [nearest_rung]
    have hr : rungP f 0 i = 0 := by unfold rungP; rw [if_pos rfl]
    rw [hr]
    have hv := val_word f (s := s) (r := 0) (by omega)
    have hv2 : val f (f.word s 0) = 0 := by rw [hv.2, rv_zero]; cases s <;> simp
    refine ⟨hv.1, f.word_lt s (by omega), by rw [hv2]; exact Rat.le_refl, ?_, ?_⟩
    · intro u hu hu0 _
      rw [hv2]; exact hu0
    · intro u hu hu0 h
      rw [hv2]
      rw [hv0] at h
      exact sq_le (Rat.le_refl) (by grind)
  · have hmp : 0 < (m : Rat) * p2 i := Rat.mul_pos (Rat.natCast_pos.2 (by omega)) (p2_pos i)
    obtain rfl : s = false := by
      cases s
      · rfl
      · rw [v1] at h0
        simp only [if_true] at h0
        grind
    simp only [Bool.false_eq_true, if_false] at v1
    obtain ⟨more, hmore⟩ : ∃ a, 2 * (f.fractionBits + 2) - m.log2 + ((i - (2 * (f.fractionBits + 2) - m.log2 : Nat)) % 2).toNat = a := ⟨_, rfl⟩
    obtain ⟨n, hn⟩ : ∃ n, m <<< more = n := ⟨_, rfl⟩
    obtain ⟨w, hw⟩ : ∃ w, Datum.rootFrom n (n.log2 / 2 + 1) 0 = w := ⟨_, rfl⟩
    rw [root_num _ _ hm0 hmore hn hw]
    refine ⟨_, rfl, ?_⟩
    have hs := rootFrom_spec n (n.log2 / 2 + 1) 0 (by omega) (by
      rw [Nat.zero_add, ← Nat.pow_add]
      exact Nat.lt_of_lt_of_le Nat.lt_log2_self (Nat.pow_le_pow_right (by omega) (by omega)))
    rw [hw] at hs
    obtain ⟨g, hg⟩ : ∃ g : Int, (i - (more : Int)) / 2 = g := ⟨_, rfl⟩
    have hig : i = g + g + (more : Int) := by omega
    show IsRoot f _ (f.nearest false (2 * w + (w * w != n).toNat) ((i - (more : Int)) / 2 - 1))
    rw [hg, nearest_rung]
    obtain ⟨st, hst⟩ : ∃ st, (w * w != n).toNat = st := ⟨_, rfl⟩
    rw [hst]
    have hst1 : st ≤ 1 := by rw [← hst]; cases (w * w != n) <;> decide
    have hgp := p2_pos g
    -- what the number is
    have hvn : val f x = (n : Rat) * (p2 g * p2 g) := by
      rw [v1, hig, p2_add, p2_add, ← hn, Nat.shiftLeft_eq, Rat.natCast_mul, p2_nat]
      grind
    have hwq : 2 ^ (f.fractionBits + 1) ≤ w := by
      have l1 : 2 ^ (2 * (f.fractionBits + 2)) ≤ n := by
        rw [← hn, Nat.shiftLeft_eq]
        calc 2 ^ (2 * (f.fractionBits + 2)) ≤ 2 ^ (m.log2 + more) := Nat.pow_le_pow_right (by omega) (by omega)
          _ = 2 ^ m.log2 * 2 ^ more := Nat.pow_add _ _ _
          _ ≤ m * 2 ^ more := Nat.mul_le_mul_right _ (Nat.log2_self_le hm0)
      have l2 : 2 ^ (f.fractionBits + 2) * 2 ^ (f.fractionBits + 2) < (w + 1) * (w + 1) := by
        rw [← Nat.pow_add, show f.fractionBits + 2 + (f.fractionBits + 2) = 2 * (f.fractionBits + 2) by omega]
        exact Nat.lt_of_le_of_lt l1 hs.2
      have := sq_lt l2
      rw [Nat.pow_succ] at this
      omega
    have e2 : ((w + 1 : Nat) : Rat) = (w : Rat) + 1 := by rw [Rat.natCast_add]; rfl
    have hw0 : 0 ≤ (w : Rat) := Rat.natCast_nonneg
    have c1 : (w : Rat) * (w : Rat) ≤ (n : Rat) := by rw [← Rat.natCast_mul]; exact Rat.natCast_le_natCast.2 hs.1
    have c2 : (n : Rat) < ((w : Rat) + 1) * ((w : Rat) + 1) := by rw [← e2, ← Rat.natCast_mul]; exact Rat.natCast_lt_natCast.2 hs.2
    have hgg := Rat.mul_pos hgp hgp
    have d1 := Rat.mul_le_mul_of_nonneg_right c1 (Rat.le_of_lt hgg)
    have d2 : (n : Rat) * (p2 g * p2 g) < ((w : Rat) + 1) * ((w : Rat) + 1) * (p2 g * p2 g) := by
      have := Rat.mul_pos (show 0 < ((w : Rat) + 1) * ((w : Rat) + 1) - (n : Rat) by grind) hgg
      grind
    -- a rational number at the root's place
    obtain ⟨X, hX⟩ : ∃ X : Rat, (w : Rat) * p2 g + (st : Rat) * (p2 g / 2) = X := ⟨_, rfl⟩
    have h0X : st = 0 → X = (w : Rat) * p2 g := by
      rintro rfl
      have : ((0 : Nat) : Rat) = 0 := rfl
      grind
    have h1X : st = 1 → (w : Rat) * p2 g < X ∧ X < ((w + 1 : Nat) : Rat) * p2 g := by
      rintro rfl
      have : ((1 : Nat) : Rat) = 1 := rfl
      rw [e2]
      constructor <;> grind
    have hst0 : st = 0 → w * w = n := by
      intro c
      cases h : (w * w != n) with
      | true => rw [h] at hst; rw [← hst] at c; cases c
      | false => simpa using h
    have hst2 : st = 1 → w * w ≠ n := by
      intro c h
      rw [h] at hst
      simp at hst
      omega
    have hX0 : 0 ≤ X := by
      have := Rat.mul_nonneg hw0 (Rat.le_of_lt hgp)
      have : 0 ≤ (st : Rat) * (p2 g / 2) := Rat.mul_nonneg Rat.natCast_nonneg (by grind)
      grind
    have up : ∀ rc, rc < f.infRung → val f x ≤ rv f rc * rv f rc → X ≤ rv f rc := by
      intro rc hrc h
      have hr0 := rv_nonneg f rc
      rw [hvn] at h
      rcases Nat.eq_zero_or_pos st with c | c
      · rw [h0X c]
        apply sq_le hr0
        grind
      · have c' : st = 1 := by omega
        have c3 : (w : Rat) * (w : Rat) < (n : Rat) := by
          rw [← Rat.natCast_mul]
          exact Rat.natCast_lt_natCast.2 (by have := hst2 c'; omega)
        have d3 := Rat.mul_pos (show 0 < (n : Rat) - (w : Rat) * (w : Rat) by grind) hgg
        have hlt : (w : Rat) * p2 g < rv f rc := by
          apply sq_lt' hr0
          grind
        have hnx := rung_next f hwq hlt
        have := (h1X c').2
        grind
    have down : ∀ rc, rc < f.infRung → rv f rc * rv f rc ≤ val f x → rv f rc ≤ X := by
      intro rc hrc h
      have hr0 := rv_nonneg f rc
      rw [hvn] at h
      have hlt : rv f rc < ((w : Rat) + 1) * p2 g := by
        apply sq_lt' (Rat.mul_nonneg (by grind) (Rat.le_of_lt hgp))
        grind
      have hXw : (w : Rat) * p2 g ≤ X := by
        have : 0 ≤ (st : Rat) * (p2 g / 2) := Rat.mul_nonneg Rat.natCast_nonneg (by grind)
        grind
      by_cases k : rv f rc ≤ (w : Rat) * p2 g
      · grind
      · have hnx := rung_next f hwq (rc := rc) (g := g) (by grind)
        rw [e2] at hnx
        grind
    have hW := word_rnd f false hX0 (x := X) (by simp) (fun rc hrc h => sticky_le f hst1 h0X h1X (fun _ => hwq) hrc h) (fun rc hrc h => sticky_ge f hst1 h0X h1X (fun _ => hwq) hrc h)
      ⟨U, hU, by rw [eU]; apply up rU hrU; rw [← eU]; exact hUx, by grind⟩
    refine ⟨hW.fin, hW.lt, hW.ge 0 ⟨0, by omega, .inl (rv_zero f).symm⟩ hX0, ?_, ?_⟩
    · intro u hu hu0 h
      obtain ⟨r, hr, e⟩ := rv_rep_nonneg f hu hu0
      exact hW.le u hu (by rw [e]; apply up r hr; rw [← e]; exact h)
    · intro u hu hu0 h
      obtain ⟨r, hr, e⟩ := rv_rep_nonneg f hu hu0
      exact hW.ge u hu (by rw [e]; apply down r hr; rw [← e]; exact h)
/-- How two finite words stand to each other. -/
theorem order_fin {x y : Nat} (hx : IsFin f x) (hy : IsFin f y) : ∃ o, f.order x y = some o ∧ (o = .lt ↔ val f x < val f y) ∧ (o = .eq ↔ val f x = val f y) ∧ (o = .gt ↔ val f y < val f x) := by
  obtain ⟨s, m, i, e1, v1⟩ := read_fin f hx
  obtain ⟨t, n, j, e2, v2⟩ := read_fin f hy
  unfold Format.order
  rw [e1, e2]
  refine ⟨_, rfl, ?_⟩
  obtain ⟨b, hb⟩ : ∃ b, min i j = b := ⟨_, rfl⟩
  rw [hb]
  rw [← signed_val s m (b := b) (by omega)] at v1
  rw [← signed_val t n (b := b) (by omega)] at v2
  obtain ⟨A, hA⟩ : ∃ A, signed s m (i - b).toNat = A := ⟨_, rfl⟩
  obtain ⟨C, hC⟩ : ∃ C, signed t n (j - b).toNat = C := ⟨_, rfl⟩
  rw [hA] at v1 ⊢
  rw [hC] at v2 ⊢
  have hp := p2_pos b
  rw [v1, v2]
  rcases Int.lt_trichotomy A C with h | h | h
  · have hr : (A : Rat) < (C : Rat) := Rat.intCast_lt_intCast.2 h
    have := Rat.mul_pos (show 0 < (C : Rat) - (A : Rat) by grind) hp
    rw [cmp_lt h]
    refine ⟨⟨fun _ => (by grind), fun _ => rfl⟩, ⟨fun h => (by cases h), fun h => (by grind)⟩, ⟨fun h => (by cases h), fun h => (by grind)⟩⟩
  · rw [cmp_eq h, h]
    refine ⟨⟨fun h => (by cases h), fun h => (by grind)⟩, ⟨fun _ => rfl, fun _ => rfl⟩, ⟨fun h => (by cases h), fun h => (by grind)⟩⟩
  · have hr : (C : Rat) < (A : Rat) := Rat.intCast_lt_intCast.2 h
    have := Rat.mul_pos (show 0 < (A : Rat) - (C : Rat) by grind) hp
    rw [cmp_gt h]
    refine ⟨⟨fun h => (by cases h), fun h => (by grind)⟩, ⟨fun h => (by cases h), fun h => (by grind)⟩, ⟨fun _ => (by grind), fun _ => rfl⟩⟩
/-- Few digits at a place, with a sign. -/
theorem rep_int {k e : Int} (hk : k.natAbs ≤ 2 ^ (f.fractionBits + 1)) (h1 : f.leastPlace ≤ e) (h2 : e - f.leastPlace + 4 ≤ 2 ^ f.exponentBits) : Rep f ((k : Rat) * p2 e) := by
  obtain ⟨r, hr, er⟩ := rep_mag f hk h1 h2
  rcases Int.natAbs_eq k with h | h
  · refine ⟨r, hr, .inl ?_⟩
    rw [er, h, Rat.intCast_natCast]
    simp
  · refine ⟨r, hr, .inr ?_⟩
    rw [er, h, Rat.intCast_neg, Rat.intCast_natCast]
    simp
    grind
/-- Rounding is off by less than the last place of the number's size. -/
theorem IsRnd.near {x : Rat} {w : Nat} (h : IsRnd f x w) {g : Int} (hg : f.leastPlace ≤ g) (hg2 : g - f.leastPlace + 4 ≤ 2 ^ f.exponentBits) (h1 : x ≤ p2 (g + f.fractionBits + 1)) (h2 : -p2 (g + f.fractionBits + 1) ≤ x) : val f w ≤ x + p2 g ∧ x ≤ val f w + p2 g := by
  have hgp := p2_pos g
  have he : p2 (g + f.fractionBits + 1) = ((2 ^ (f.fractionBits + 1) : Nat) : Rat) * p2 g := by
    rw [show g + (f.fractionBits : Int) + 1 = ((f.fractionBits + 1 : Nat) : Int) + g by omega, p2_add, p2_nat]
  rw [he] at h1 h2
  obtain ⟨k, hk⟩ : ∃ k, (x / p2 g).floor = k := ⟨_, rfl⟩
  have f1 := Rat.floor_le (x / p2 g)
  have f2 := Rat.lt_floor_add_one (x / p2 g)
  rw [hk] at f1 f2
  have hxg : x / p2 g * p2 g = x := by grind
  have g1 : (k : Rat) * p2 g ≤ x := by
    have := Rat.mul_le_mul_of_nonneg_right f1 (Rat.le_of_lt hgp)
    grind
  have e1 : ((k + 1 : Int) : Rat) = (k : Rat) + 1 := by rw [Rat.intCast_add]; rfl
  have g2 : x < ((k : Rat) + 1) * p2 g := by
    rw [e1] at f2
    have := Rat.mul_pos (show 0 < (k : Rat) + 1 - x / p2 g by grind) hgp
    grind
  have k1 : k ≤ ((2 ^ (f.fractionBits + 1) : Nat) : Int) := by
    apply Rat.intCast_le_intCast.1
    rw [Rat.intCast_natCast]
    apply rat_cancel hgp
    grind
  have k2 : -((2 ^ (f.fractionBits + 1) : Nat) : Int) < k + 1 := by
    apply Rat.intCast_lt_intCast.1
    rw [Rat.intCast_neg, Rat.intCast_natCast, e1]
    by_cases c : -((2 ^ (f.fractionBits + 1) : Nat) : Rat) < (k : Rat) + 1
    · exact c
    · exfalso
      have := Rat.mul_le_mul_of_nonneg_right (show (k : Rat) + 1 ≤ -((2 ^ (f.fractionBits + 1) : Nat) : Rat) by grind) (Rat.le_of_lt hgp)
      grind
  have r1 := h.ge _ (rep_int f (k := k) (e := g) (by omega) hg hg2) g1
  by_cases k3 : k = ((2 ^ (f.fractionBits + 1) : Nat) : Int)
  · have hx : x = (k : Rat) * p2 g := by
      have : (k : Rat) = ((2 ^ (f.fractionBits + 1) : Nat) : Rat) := by rw [k3, Rat.intCast_natCast]
      rw [this] at g1 ⊢
      grind
    have := h.exact _ (by rw [hx]; exact rep_int f (by omega) hg hg2)
    grind
  · have r2 := h.le _ (rep_int f (k := k + 1) (e := g) (by omega) hg hg2) (by rw [e1]; grind)
    rw [e1] at r2
    grind
end
end Go.Proofs.Ytkldgcgijkfpaaa.Num

namespace Go.Proofs.Ytkldgcgijkfpaaa.Num
open Go
open Ieee (Format Datum)
open Go.Proofs.Ytkldgcgijkfpaaa.Rnd Go.Proofs.Ytkldgcgijkfpaaa.Quick

abbrev Fl (k : FloatKind) (w : Nat) : Prop := IsFin k.format w
abbrev fv (k : FloatKind) (w : Nat) : Rat := val k.format w
abbrev FR (k : FloatKind) (x : Rat) (w : Nat) : Prop := IsRnd k.format x w
/-- A bound that both kinds hold: two to the power of 100. -/
abbrev top : Rat := 1267650600228229401496703205376
theorem p2_100 : p2 100 = top := by decide +kernel
theorem fmt_facts (k : FloatKind) : 1 ≤ k.format.exponentBits ∧ k.format.leastPlace ≤ -149 ∧ 23 ≤ k.format.fractionBits ∧ 100 - k.format.leastPlace + 4 ≤ 2 ^ k.format.exponentBits := by
  cases k <;> decide +kernel
/-- Whole numbers of few digits at a place. -/
theorem rep_at (k : FloatKind) (m : Int) (e : Int) (hm : m.natAbs ≤ 16777216) (h1 : -149 ≤ e) (h2 : e ≤ 100) : Rep k.format ((m : Rat) * p2 e) := by
  obtain ⟨a, b, c, d⟩ := fmt_facts k
  refine rep_int k.format ?_ (by omega) (by omega)
  have : (2 : Nat) ^ 24 ≤ 2 ^ (k.format.fractionBits + 1) := Nat.pow_le_pow_right (by omega) (by omega)
  omega
theorem rep_nat (k : FloatKind) (m : Int) (hm : m.natAbs ≤ 16777216) : Rep k.format (m : Rat) := by
  have := rep_at k m 0 hm (by omega) (by omega)
  rw [show p2 0 = 1 from rfl, Rat.mul_one] at this
  exact this
/-- A fraction of few digits over a power of two. -/
theorem rep_frac (k : FloatKind) (m : Int) (n : Nat) (hm : m.natAbs ≤ 16777216) (hn : n ≤ 149) : Rep k.format ((m : Rat) / ((2 ^ n : Nat) : Rat)) := by
  have := rep_at k m (-(n : Int)) hm (by omega) (by omega)
  have hp : 0 < ((2 ^ n : Nat) : Rat) := Rat.natCast_pos.2 (Nat.two_pow_pos n)
  have e : p2 (n : Int) * p2 (-(n : Int)) = p2 0 := by rw [← p2_add]; congr 1; omega
  rw [p2_nat, show p2 0 = 1 from rfl] at e
  have e2 : (m : Rat) * p2 (-(n : Int)) = (m : Rat) / ((2 ^ n : Nat) : Rat) := by
    have h1 : (m : Rat) * p2 (-(n : Int)) * ((2 ^ n : Nat) : Rat) = (m : Rat) := by grind
    grind
  rw [e2] at this
  exact this
theorem lim_of {k : FloatKind} {x : Rat} (h1 : x ≤ top) (h2 : -top ≤ x) : Lim k.format x := by
  refine ⟨top, ?_, h1, h2⟩
  have := rep_at k 1 100 (by decide) (by decide) (by decide)
  rw [p2_100] at this
  have e : ((1 : Int) : Rat) * top = top := by rw [Rat.intCast_one]; exact Rat.one_mul _
  rw [e] at this
  exact this
section
variable {k : FloatKind} {x y : Nat}
theorem fadd (hx : Fl k x) (hy : Fl k y) (h1 : fv k x + fv k y ≤ top) (h2 : -top ≤ fv k x + fv k y) : ∃ r, floatBits .add k x y = some r ∧ FR k (fv k x + fv k y) r := add_rnd k.format hx hy (lim_of h1 h2)
theorem fsub (hx : Fl k x) (hy : Fl k y) (h1 : fv k x - fv k y ≤ top) (h2 : -top ≤ fv k x - fv k y) : ∃ r, floatBits .sub k x y = some r ∧ FR k (fv k x - fv k y) r := sub_rnd k.format hx hy (lim_of h1 h2)
theorem fmul (hx : Fl k x) (hy : Fl k y) (h1 : fv k x * fv k y ≤ top) (h2 : -top ≤ fv k x * fv k y) : ∃ r, floatBits .mul k x y = some r ∧ FR k (fv k x * fv k y) r := mul_rnd k.format hx hy (lim_of h1 h2)
theorem fdiv (hx : Fl k x) (hy : Fl k y) (h0 : fv k y ≠ 0) (h1 : fv k x / fv k y ≤ top) (h2 : -top ≤ fv k x / fv k y) : ∃ r, floatBits .quo k x y = some r ∧ FR k (fv k x / fv k y) r := div_rnd k.format hx hy h0 (lim_of h1 h2)
theorem fsqrt (hx : Fl .f64 x) (h0 : 0 ≤ fv .f64 x) (h1 : fv .f64 x ≤ top) : ∃ r, FloatKind.f64.format.sqrt x = some r ∧ IsRoot FloatKind.f64.format (fv .f64 x) r := by
  refine sqrt_root _ hx h0 ⟨top, ?_, by decide, ?_⟩
  · have := rep_at .f64 1 100 (by decide) (by decide) (by decide)
    rw [p2_100] at this
    have e : ((1 : Int) : Rat) * top = top := by rw [Rat.intCast_one]; exact Rat.one_mul _
    rw [e] at this
    exact this
  · have : (top : Rat) ≤ top * top := by decide +kernel
    exact Rat.le_trans h1 this
/-- A rounded number that is one of few digits. -/
theorem IsRnd.num {v : Rat} {w : Nat} (h : FR k v w) (m : Int) (n : Nat) (hv : v = (m : Rat) / ((2 ^ n : Nat) : Rat)) (hm : m.natAbs ≤ 16777216) (hn : n ≤ 149) : fv k w = v := h.exact _ (by rw [hv]; exact rep_frac k m n hm hn)
theorem IsRnd.le_int {v : Rat} {w : Nat} (h : FR k v w) (m : Int) (hm : m.natAbs ≤ 16777216) (hv : v ≤ (m : Rat)) : fv k w ≤ (m : Rat) := h.le _ (rep_nat k m hm) hv
theorem IsRnd.ge_int {v : Rat} {w : Nat} (h : FR k v w) (m : Int) (hm : m.natAbs ≤ 16777216) (hv : (m : Rat) ≤ v) : (m : Rat) ≤ fv k w := h.ge _ (rep_nat k m hm) hv
/-- Within two powers of two. -/
theorem IsRnd.within {v : Rat} {w : Nat} (h : FR k v w) (e : Int) (h1 : -149 ≤ e) (h2 : e ≤ 100) (hv : v ≤ p2 e) (hv2 : -p2 e ≤ v) : fv k w ≤ p2 e ∧ -p2 e ≤ fv k w := by
  have r := rep_at k 1 e (by decide) h1 h2
  have e1 : ((1 : Int) : Rat) * p2 e = p2 e := by rw [Rat.intCast_one]; exact Rat.one_mul _
  rw [e1] at r
  exact ⟨h.le _ r hv, h.ge _ (Rep.neg _ r) hv2⟩
end
/-- The error of a rounded single, by the number's size. -/
theorem IsRnd.near32 {v : Rat} {w : Nat} (h : FR .f32 v w) (e : Int) (h1 : -125 ≤ e) (h2 : e ≤ 100) (hv : v ≤ p2 e) (hv2 : -p2 e ≤ v) : fv .f32 w ≤ v + p2 (e - 24) ∧ v ≤ fv .f32 w + p2 (e - 24) := by
  have hp : FloatKind.f32.format.leastPlace = -149 := by decide +kernel
  have hf : FloatKind.f32.format.fractionBits = 23 := rfl
  have he : (2 : Int) ^ FloatKind.f32.format.exponentBits = 256 := by decide +kernel
  have e1 : e - 24 + (FloatKind.f32.format.fractionBits : Int) + 1 = e := by rw [hf]; omega
  exact IsRnd.near _ h (g := e - 24) (by omega) (by omega) (by rw [e1]; exact hv) (by rw [e1]; exact hv2)
theorem IsRnd.near64 {v : Rat} {w : Nat} (h : FR .f64 v w) (e : Int) (h1 : -500 ≤ e) (h2 : e ≤ 500) (hv : v ≤ p2 e) (hv2 : -p2 e ≤ v) : fv .f64 w ≤ v + p2 (e - 53) ∧ v ≤ fv .f64 w + p2 (e - 53) := by
  have hp : FloatKind.f64.format.leastPlace = -1074 := by decide +kernel
  have hf : FloatKind.f64.format.fractionBits = 52 := rfl
  have he : (2 : Int) ^ FloatKind.f64.format.exponentBits = 2048 := by decide +kernel
  have e1 : e - 53 + (FloatKind.f64.format.fractionBits : Int) + 1 = e := by rw [hf]; omega
  exact IsRnd.near _ h (g := e - 53) (by omega) (by omega) (by rw [e1]; exact hv) (by rw [e1]; exact hv2)
/-- A finite float of one kind, read and written as the other. -/
theorem fconv (j k : FloatKind) (hjk : j ≠ k) {x : Nat} (hx : Fl j x) (hl : Lim k.format (fv j x)) : ∃ r, floatToFloatBits j x k = some r ∧ FR k (fv j x) r := by
  obtain ⟨s, m, p, e1, v1⟩ := read_fin j.format hx
  have hr := nearest_rnd k.format s m p (x := fv j x) v1 hl
  unfold floatToFloatBits
  rw [if_neg hjk]
  unfold FloatKind.decode FloatKind.encode
  rw [e1]
  have hB : k.format.binade ≤ k.format.infRung := by cases k <;> decide +kernel
  have hni : (k.format.read (k.format.nearest s m p)).isInfinity = false := by
    rw [isInf_read hB]
    have : k.format.nearest s m p % k.format.signWeight < k.format.infRung := hr.fin
    exact decide_eq_false (by omega)
  refine ⟨k.format.nearest s m p, ?_, hr⟩
  show (if (k.format.read (k.format.nearest s m p)).isInfinity = true then none else some (k.format.nearest s m p)) = _
  rw [hni]
  rfl
theorem fnarrow {x : Nat} (hx : Fl .f64 x) (h1 : fv .f64 x ≤ top) (h2 : -top ≤ fv .f64 x) : ∃ r, qnarrow x = some r ∧ FR .f32 (fv .f64 x) r := by
  rw [qnarrow_eq]
  exact fconv .f64 .f32 (by decide) hx (lim_of h1 h2)
/-- A single is a double. -/
theorem rep_wide {u : Rat} (h : Rep FloatKind.f32.format u) : Rep FloatKind.f64.format u := by
  obtain ⟨r, hr, e⟩ := h
  have hi : r < 2139095040 := hr
  have hB : FloatKind.f32.format.binade = 8388608 := rfl
  have hm : rv FloatKind.f32.format r = ((maq FloatKind.f32.format.binade r : Nat) : Rat) * p2 (((exq FloatKind.f32.format.binade r : Nat) : Int) + -149) := by
    unfold rv
    rw [magV_maq, Rat.natCast_mul, ← p2_nat, Rat.mul_assoc, ← p2_add]
    rfl
  have hq : exq FloatKind.f32.format.binade r ≤ 254 := by
    have h1 : exq FloatKind.f32.format.binade r = r / 8388608 - 1 := rfl
    omega
  have hmq : maq FloatKind.f32.format.binade r ≤ 16777216 := by
    unfold maq
    rw [cond_ble, hB]
    split
    · show 8388608 + r % 8388608 ≤ _
      omega
    · omega
  have hrep : Rep FloatKind.f64.format (rv FloatKind.f32.format r) := by
    rw [hm, ← Rat.intCast_natCast]
    have hp : FloatKind.f64.format.leastPlace = -1074 := by decide +kernel
    have he : (2 : Int) ^ FloatKind.f64.format.exponentBits = 2048 := by decide +kernel
    have hf : (2 : Nat) ^ (FloatKind.f64.format.fractionBits + 1) = 9007199254740992 := by decide +kernel
    exact rep_int _ (by rw [hf]; omega) (by omega) (by omega)
  rcases e with e | e
  · rw [e]; exact hrep
  · rw [e]; exact hrep.neg
theorem fwide {x : Nat} (hx : Fl .f32 x) : ∃ r, qwide x = some r ∧ Fl .f64 r ∧ r < 18446744073709551616 ∧ fv .f64 r = fv .f32 x := by
  rw [qwide_eq]
  have hrep := rep_wide (rep_val _ hx)
  obtain ⟨r, h1, h2⟩ := fconv .f32 .f64 (by decide) hx ⟨if 0 ≤ fv .f32 x then fv .f32 x else -fv .f32 x, by split <;> first | exact hrep | exact hrep.neg, by split <;> grind, by split <;> grind⟩
  exact ⟨r, h1, h2.fin, h2.lt, h2.exact _ hrep⟩
theorem fint (k : FloatKind) (n : Int) (hn : n.natAbs ≤ 16777216) : Fl k (floatOfInt k n) ∧ fv k (floatOfInt k n) = (n : Rat) ∧ floatOfInt k n < 2 ^ k.format.width := by
  have hx : (n : Rat) = if decide (n < 0) = true then -(((n.natAbs : Nat) : Rat) * p2 0) else ((n.natAbs : Nat) : Rat) * p2 0 := by
    rw [show p2 0 = 1 from rfl, Rat.mul_one]
    by_cases h : n < 0
    · rw [decide_eq_true h, if_pos rfl, ← Rat.intCast_natCast, ← Rat.intCast_neg]
      congr 1
      omega
    · rw [decide_eq_false h, if_neg (by decide), ← Rat.intCast_natCast]
      congr 1
      omega
  have hrep := rep_nat k n hn
  have h := nearest_rnd k.format (decide (n < 0)) n.natAbs 0 hx ⟨if 0 ≤ (n : Rat) then (n : Rat) else -(n : Rat), by split <;> first | exact hrep | exact hrep.neg, by split <;> grind, by split <;> grind⟩
  exact ⟨h.fin, h.exact _ hrep, h.lt⟩
end Go.Proofs.Ytkldgcgijkfpaaa.Num
