/- Plain law: floats as rational numbers; rounding keeps a number between those of the format that it lies between. -/
import Derived.Test.YtkldgcgijkfpaaaFk
namespace Go.Proofs.Ytkldgcgijkfpaaa.Num
open Ieee
open Go.Proofs.Ytkldgcgijkfpaaa.Rnd Go.Proofs.Ytkldgcgijkfpaaa.Quick

/-- Two to a power. -/
def p2 (e : Int) : Rat := (2 : Rat) ^ e
theorem p2_pos (e : Int) : 0 < p2 e := Rat.zpow_pos (show (0 : Rat) < 2 by decide)
theorem p2_add (a b : Int) : p2 (a + b) = p2 a * p2 b := Rat.zpow_add (show (2 : Rat) ≠ 0 by decide) a b
theorem p2_nat (n : Nat) : p2 (n : Int) = ((2 ^ n : Nat) : Rat) := by
  show (2 : Rat) ^ n = _
  rw [Rat.natCast_pow]
  rfl
theorem p2_le {a b : Int} (h : a ≤ b) : p2 a ≤ p2 b := by
  obtain ⟨k, rfl⟩ : ∃ k : Nat, b = a + k := ⟨(b - a).toNat, by omega⟩
  rw [p2_add, p2_nat]
  have h1 : (1 : Rat) ≤ ((2 ^ k : Nat) : Rat) := by
    have : (1 : Nat) ≤ 2 ^ k := Nat.one_le_two_pow
    exact_mod_cast Rat.natCast_le_natCast.2 this
  have := Rat.mul_le_mul_of_nonneg_left h1 (Rat.le_of_lt (p2_pos a))
  rw [Rat.mul_one] at this
  exact this
theorem rat_cancel {a b c : Rat} (hc : 0 < c) (h : a * c ≤ b * c) : a ≤ b := by
  rcases (Rat.le_total : a ≤ b ∨ b ≤ a) with h1 | h1
  · exact h1
  · have h2 := Rat.mul_le_mul_of_nonneg_right h1 (Rat.le_of_lt hc)
    have h3 : (a - b) * c = 0 := by grind
    rcases Rat.mul_eq_zero.1 h3 with h4 | h4
    · grind
    · grind
/-- Magnitudes compared, over one place. -/
theorem dy_le {n m : Nat} {p q b : Int} (hp : b ≤ p) (hq : b ≤ q) : (n : Rat) * p2 p ≤ (m : Rat) * p2 q ↔ n * 2 ^ (p - b).toNat ≤ m * 2 ^ (q - b).toNat := by
  have e1 : p2 p = p2 ((p - b).toNat : Nat) * p2 b := by rw [← p2_add]; congr 1; omega
  have e2 : p2 q = p2 ((q - b).toNat : Nat) * p2 b := by rw [← p2_add]; congr 1; omega
  rw [e1, e2, p2_nat, p2_nat, ← Rat.mul_assoc, ← Rat.mul_assoc, ← Rat.natCast_mul, ← Rat.natCast_mul]
  constructor
  · intro h
    exact Rat.natCast_le_natCast.1 (rat_cancel (p2_pos b) h)
  · intro h
    exact Rat.mul_le_mul_of_nonneg_right (Rat.natCast_le_natCast.2 h) (Rat.le_of_lt (p2_pos b))
section
variable (f : Format)
/-- A finite word. -/
def IsFin (w : Nat) : Prop := w % f.signWeight < f.infRung
/-- The magnitude of a rung. -/
def rv (r : Nat) : Rat := (magV f r : Rat) * p2 f.leastPlace
/-- The number that a finite word stands for. -/
def val (w : Nat) : Rat := if w / f.signWeight % 2 = 1 then -rv f (w % f.signWeight) else rv f (w % f.signWeight)
theorem rv_nonneg (r : Nat) : 0 ≤ rv f r := Rat.mul_nonneg Rat.natCast_nonneg (Rat.le_of_lt (p2_pos _))
theorem rv_zero : rv f 0 = 0 := by
  have hB : 0 < f.binade := Nat.two_pow_pos _
  unfold rv magV
  rw [if_pos hB]
  exact Rat.zero_mul _
theorem rv_mono {a b : Nat} (h : a ≤ b) : rv f a ≤ rv f b := Rat.mul_le_mul_of_nonneg_right (Rat.natCast_le_natCast.2 (magV_mono f h)) (Rat.le_of_lt (p2_pos _))
/-- The numbers of the format. -/
def Rep (u : Rat) : Prop := ∃ r, r < f.infRung ∧ (u = rv f r ∨ u = -rv f r)
theorem Rep.neg {u : Rat} (h : Rep f u) : Rep f (-u) := by
  obtain ⟨r, hr, h | h⟩ := h
  · exact ⟨r, hr, .inr (by rw [h])⟩
  · exact ⟨r, hr, .inl (by rw [h]; grind)⟩
theorem rep_val {w : Nat} (h : IsFin f w) : Rep f (val f w) := by
  unfold val
  split
  · exact ⟨_, h, .inr rfl⟩
  · exact ⟨_, h, .inl rfl⟩
theorem magV_maq (r : Nat) : magV f r = maq f.binade r * 2 ^ (exq f.binade r) := by
  unfold magV maq exq
  rw [cond_ble]
  have hB : 0 < f.binade := Nat.two_pow_pos _
  by_cases h : r < f.binade
  · rw [if_pos h, if_neg (by omega)]
    have : r.div f.binade = 0 := Nat.div_eq_of_lt h
    rw [this]
    exact (Nat.mul_one r).symm
  · rw [if_neg h, if_pos (by omega)]
    rfl
/-- A finite word, read: its sign, magnitude and place, and what it stands for. -/
theorem read_fin {w : Nat} (h : IsFin f w) : ∃ (s : Bool) (m : Nat) (p : Int), f.read w = .number s m p ∧ val f w = (if s then -((m : Rat) * p2 p) else (m : Rat) * p2 p) := by
  refine ⟨_, _, _, read_num f h, ?_⟩
  unfold val rv
  rw [magV_maq, Rat.natCast_mul, ← p2_nat, Rat.mul_assoc, ← p2_add, Int.add_comm]
  rcases Nat.mod_two_eq_zero_or_one (w / f.signWeight) with e | e
  · rw [e, if_neg (by omega)]; rfl
  · rw [e, if_pos rfl]; rfl
theorem val_word {s : Bool} {r : Nat} (hr : r < f.infRung) : IsFin f (f.word s r) ∧ val f (f.word s r) = if s then -rv f r else rv f r := by
  have hl := inf_lt f
  have hsw : 0 < f.signWeight := Nat.two_pow_pos _
  have e1 : f.word s r % f.signWeight = r := by
    unfold Format.word
    cases s
    · simp only [Bool.false_eq_true, if_false]; exact Nat.mod_eq_of_lt (by omega)
    · simp only [if_true]; rw [Nat.add_mod_left]; exact Nat.mod_eq_of_lt (by omega)
  have e2 : f.word s r / f.signWeight % 2 = s.toNat := by
    unfold Format.word
    cases s
    · simp only [Bool.false_eq_true, if_false]; rw [Nat.div_eq_of_lt (by omega)]; rfl
    · simp only [if_true]; rw [Nat.add_div_left _ hsw, Nat.div_eq_of_lt (by omega)]; rfl
  refine ⟨by unfold IsFin; rw [e1]; exact hr, ?_⟩
  unfold val
  rw [e1, e2]
  cases s <;> rfl
/-- The word w stands for x, rounded. -/
structure IsRnd (x : Rat) (w : Nat) : Prop where
  fin : IsFin f w
  lt : w < 2 ^ f.width
  le : ∀ u, Rep f u → x ≤ u → val f w ≤ u
  ge : ∀ u, Rep f u → u ≤ x → u ≤ val f w
theorem IsRnd.exact {x : Rat} {w : Nat} (h : IsRnd f x w) (hx : Rep f x) : val f w = x := by
  have := h.le x hx (Rat.le_refl)
  have := h.ge x hx (Rat.le_refl)
  grind
/-- Within the format's numbers. -/
def Lim (x : Rat) : Prop := ∃ U, Rep f U ∧ x ≤ U ∧ -U ≤ x
theorem rung_le_of {n rc : Nat} {p : Int} (hrc : rc < f.infRung) (h : (n : Rat) * p2 p ≤ rv f rc) : rungP f n p ≤ rc := by
  obtain ⟨b, hb⟩ : ∃ b, min p f.leastPlace = b := ⟨_, rfl⟩
  exact rungP_le f (b := b) (by omega) (by omega) (by omega) ((dy_le (by omega) (by omega)).1 h)
theorem rung_ge_of {n rc : Nat} {p : Int} (hrc : rc < f.infRung) (h : rv f rc ≤ (n : Rat) * p2 p) : rc ≤ rungP f n p := by
  obtain ⟨b, hb⟩ : ∃ b, min p f.leastPlace = b := ⟨_, rfl⟩
  exact rungP_ge f (b := b) (by omega) (by omega) (by omega) ((dy_le (by omega) (by omega)).1 h)
theorem nearest_rnd (s : Bool) (n : Nat) (p : Int) {x : Rat} (hx : x = if s then -((n : Rat) * p2 p) else (n : Rat) * p2 p) (hl : Lim f x) : IsRnd f x (f.nearest s n p) := by
  have hn : 0 ≤ (n : Rat) * p2 p := Rat.mul_nonneg Rat.natCast_nonneg (Rat.le_of_lt (p2_pos _))
  obtain ⟨U, hU, hU1, hU2⟩ := hl
  obtain ⟨rU, hrU, eU⟩ := hU
  have hrv := rv_nonneg f rU
  have hle : rungP f n p ≤ rU := by
    apply rung_le_of f hrU
    cases s <;> simp at hx <;> rcases eU with e | e <;> grind
  have hlt : rungP f n p < f.infRung := by omega
  rw [nearest_rung]
  have hv := val_word f (s := s) hlt
  refine ⟨hv.1, ?_, ?_, ?_⟩
  · exact f.word_lt s (by have := inf_lt f; omega)
  · rintro u ⟨r, hr, e⟩ hxu
    have hr0 := rv_nonneg f r
    rw [hv.2]
    have h0 := rv_nonneg f (rungP f n p)
    cases s
    · simp only [Bool.false_eq_true, if_false] at hx ⊢
      rcases e with e | e
      · have := rv_mono f (rung_le_of f hr (n := n) (p := p) (by grind))
        grind
      · have h1 : (n : Rat) * p2 p ≤ rv f 0 := by
          have := rv_zero f
          grind
        have := rv_mono f (rung_le_of f (by omega) h1)
        have := rv_zero f
        grind
    · simp only [if_true] at hx ⊢
      rcases e with e | e
      · grind
      · have := rv_mono f (rung_ge_of f hr (n := n) (p := p) (by grind))
        grind
  · rintro u ⟨r, hr, e⟩ hxu
    have hr0 := rv_nonneg f r
    rw [hv.2]
    have h0 := rv_nonneg f (rungP f n p)
    cases s
    · simp only [Bool.false_eq_true, if_false] at hx ⊢
      rcases e with e | e
      · have := rv_mono f (rung_ge_of f hr (n := n) (p := p) (by grind))
        grind
      · grind
    · simp only [if_true] at hx ⊢
      rcases e with e | e
      · have h1 : (n : Rat) * p2 p ≤ rv f 0 := by
          have := rv_zero f
          grind
        have := rv_mono f (rung_le_of f (by omega) h1)
        have := rv_zero f
        grind
      · have := rv_mono f (rung_le_of f hr (n := n) (p := p) (by grind))
        grind
/-- Few digits at a place are a number of the format. -/
theorem rep_mag {k : Nat} {e : Int} (hk : k ≤ 2 ^ (f.fractionBits + 1)) (h1 : f.leastPlace ≤ e) (h2 : e - f.leastPlace + 4 ≤ 2 ^ f.exponentBits) : ∃ r, r < f.infRung ∧ rv f r = (k : Rat) * p2 e := by
  obtain ⟨d, hd⟩ : ∃ d : Nat, e - f.leastPlace = d := ⟨(e - f.leastPlace).toNat, by omega⟩
  have hB : f.binade = 2 ^ f.fractionBits := rfl
  have hBp : 0 < f.binade := Nat.two_pow_pos _
  have h2' : d + 4 ≤ 2 ^ f.exponentBits := by
    have : ((2 ^ f.exponentBits : Nat) : Int) = (2 : Int) ^ f.exponentBits := by norm_cast
    omega
  suffices h : ∃ r, r < f.infRung ∧ magV f r = k * 2 ^ d by
    obtain ⟨r, hr, hm⟩ := h
    refine ⟨r, hr, ?_⟩
    unfold rv
    rw [hm, Rat.natCast_mul, ← p2_nat, Rat.mul_assoc, ← p2_add]
    congr 2
    omega
  have hinf : ∀ q m : Nat, q + 2 ≤ 2 ^ f.exponentBits → m < f.binade → q * f.binade + m < f.infRung := by
    intro q m hq hm
    unfold Format.infRung
    have : (q + 1) * f.binade ≤ (2 ^ f.exponentBits - 1) * f.binade := Nat.mul_le_mul_right _ (by omega)
    rw [Nat.add_mul] at this
    omega
  -- a mantissa of full length
  have full : ∀ m q : Nat, f.binade ≤ m → m < 2 * f.binade → q + 3 ≤ 2 ^ f.exponentBits → ∃ r, r < f.infRung ∧ magV f r = m * 2 ^ q := by
    intro m q hm1 hm2 hq
    refine ⟨(q + 1) * f.binade + (m - f.binade), hinf _ _ (by omega) (by omega), ?_⟩
    unfold magV
    have hge : ¬ (q + 1) * f.binade + (m - f.binade) < f.binade := by
      rw [Nat.add_mul]
      omega
    rw [if_neg hge]
    have e1 : ((q + 1) * f.binade + (m - f.binade)) % f.binade = m - f.binade := by
      rw [Nat.mul_add_mod_self_right, Nat.mod_eq_of_lt (by omega)]
    have e2 : ((q + 1) * f.binade + (m - f.binade)) / f.binade = q + 1 := by
      rw [Nat.mul_comm, Nat.mul_add_div hBp, Nat.div_eq_of_lt (by omega), Nat.add_zero]
    rw [e1, e2, Nat.add_sub_cancel]
    congr 1
    omega
  by_cases h0 : k = 0
  · refine ⟨0, ?_, ?_⟩
    · have := hinf 0 0 (by omega) hBp
      omega
    · unfold magV
      rw [if_pos hBp, h0, Nat.zero_mul]
  · rcases Nat.eq_or_lt_of_le hk with e1 | e1
    · -- the greatest one
      obtain ⟨r, hr, hm⟩ := full (2 ^ f.fractionBits) (d + 1) (Nat.le_refl _) (by omega) (by omega)
      refine ⟨r, hr, ?_⟩
      rw [hm, e1, ← Nat.pow_add, ← Nat.pow_add, show f.fractionBits + (d + 1) = f.fractionBits + 1 + d by omega]
    · have hl1 := Nat.log2_self_le h0
      have hl2 : k < 2 ^ (k.log2 + 1) := Nat.lt_log2_self
      have hl3 : k.log2 < f.fractionBits + 1 := (Nat.log2_lt h0).2 e1
      obtain ⟨c, hc⟩ : ∃ c, f.fractionBits = k.log2 + c := ⟨f.fractionBits - k.log2, by omega⟩
      by_cases hcd : c ≤ d
      · obtain ⟨r, hr, hm⟩ := full (k * 2 ^ c) (d - c) (by rw [hB, hc, Nat.pow_add]; exact Nat.mul_le_mul_right _ hl1) (by
          rw [hB, hc, Nat.pow_add, ← Nat.mul_assoc, ← Nat.pow_succ']
          exact (Nat.mul_lt_mul_right (Nat.two_pow_pos c)).2 hl2) (by omega)
        refine ⟨r, hr, ?_⟩
        rw [hm, Nat.mul_assoc, ← Nat.pow_add]
        congr 2
        omega
      · have hsm : k * 2 ^ d < f.binade := by
          rw [hB]
          calc k * 2 ^ d < 2 ^ (k.log2 + 1) * 2 ^ d := (Nat.mul_lt_mul_right (Nat.two_pow_pos d)).2 hl2
            _ = 2 ^ (k.log2 + 1 + d) := (Nat.pow_add _ _ _).symm
            _ ≤ 2 ^ f.fractionBits := Nat.pow_le_pow_right (by omega) (by omega)
        refine ⟨k * 2 ^ d, ?_, ?_⟩
        · have := hinf 0 (k * 2 ^ d) (by omega) hsm
          omega
        · unfold magV
          rw [if_pos hsm]
end
end Go.Proofs.Ytkldgcgijkfpaaa.Num
