/- Plain law: rounding to the nearest keeps the order and fixes what the format holds. -/
import Derived.Test.YtkldgcgijkfpaaaRows
import Ieee.Arith
namespace Go.Proofs.Ytkldgcgijkfpaaa.Rnd
open Ieee

/-- Cut to the nearest, without the short way. -/
def cutE (n drop : Nat) : Nat := n / 2 ^ drop + (decide (2 ^ drop < 2 * (n % 2 ^ drop)) || (2 ^ drop == 2 * (n % 2 ^ drop) && n / 2 ^ drop % 2 == 1)).toNat
theorem cut_even (neg : Bool) (n drop : Nat) : Toward.even.cut neg n drop = cutE n drop := by
  unfold Toward.cut cutE
  simp only
  rcases Nat.lt_or_ge (n.log2 + 2) drop with h | h
  · rw [Nat.min_eq_right (by omega)]
    have h0 : n < 2 ^ (n.log2 + 1) := Nat.lt_log2_self
    have e1 : 2 ^ (n.log2 + 2) = 2 * 2 ^ (n.log2 + 1) := by rw [Nat.pow_succ, Nat.mul_comm]
    have h1 : 2 ^ (n.log2 + 2) ≤ 2 ^ drop := Nat.pow_le_pow_right (by omega) (by omega)
    have m1 : n % 2 ^ (n.log2 + 2) = n := Nat.mod_eq_of_lt (by omega)
    have m2 : n % 2 ^ drop = n := Nat.mod_eq_of_lt (by omega)
    have d1 : n / 2 ^ (n.log2 + 2) = 0 := Nat.div_eq_of_lt (by omega)
    have d2 : n / 2 ^ drop = 0 := Nat.div_eq_of_lt (by omega)
    rw [Nat.one_shiftLeft, m1, m2, d1, d2]
    have a1 : ¬ 2 ^ (n.log2 + 2) < 2 * n := by omega
    have a2 : ¬ 2 ^ drop < 2 * n := by omega
    simp [a1, a2]
  · rw [Nat.min_eq_left (by omega), Nat.one_shiftLeft]
theorem cutE_mono {a b d : Nat} (h : a ≤ b) : cutE a d ≤ cutE b d := by
  unfold cutE
  have hq : a / 2 ^ d ≤ b / 2 ^ d := Nat.div_le_div_right h
  have b1 : ∀ p : Bool, p.toNat ≤ 1 := fun p => by cases p <;> simp
  rcases Nat.eq_or_lt_of_le hq with e | e
  · rw [e]
    have ha := Nat.div_add_mod a (2 ^ d)
    have hb := Nat.div_add_mod b (2 ^ d)
    rw [e] at ha
    have hr : a % 2 ^ d ≤ b % 2 ^ d := by omega
    apply Nat.add_le_add_left
    cases hp : (decide (2 ^ d < 2 * (a % 2 ^ d)) || (2 ^ d == 2 * (a % 2 ^ d) && b / 2 ^ d % 2 == 1)) with
    | false => simp
    | true =>
      have : (decide (2 ^ d < 2 * (b % 2 ^ d)) || (2 ^ d == 2 * (b % 2 ^ d) && b / 2 ^ d % 2 == 1)) = true := by
        simp only [Bool.or_eq_true, decide_eq_true_eq, Bool.and_eq_true, beq_iff_eq] at hp ⊢
        rcases hp with hp | ⟨h1, h2⟩
        · left; omega
        · rcases Nat.lt_or_ge (2 ^ d) (2 * (b % 2 ^ d)) with c | c
          · left; exact c
          · right; exact ⟨by omega, h2⟩
      rw [this]
      exact Nat.le_refl _
  · have := b1 (decide (2 ^ d < 2 * (a % 2 ^ d)) || (2 ^ d == 2 * (a % 2 ^ d) && a / 2 ^ d % 2 == 1))
    omega
theorem cutE_ge (n d : Nat) : n / 2 ^ d ≤ cutE n d := by unfold cutE; omega
theorem cutE_le (n d : Nat) : cutE n d ≤ n / 2 ^ d + 1 := by
  unfold cutE
  have b1 : ∀ p : Bool, p.toNat ≤ 1 := fun p => by cases p <;> simp
  have := b1 (decide (2 ^ d < 2 * (n % 2 ^ d)) || (2 ^ d == 2 * (n % 2 ^ d) && n / 2 ^ d % 2 == 1))
  omega
theorem cutE_zero (n : Nat) : cutE n 0 = n := by unfold cutE; simp [Nat.mod_one]
/-- Where what is cut off is nothing. -/
theorem cutE_exact (n j k : Nat) : cutE (n * 2 ^ (j + k)) k = n * 2 ^ j := by
  unfold cutE
  have e : n * 2 ^ (j + k) = n * 2 ^ j * 2 ^ k := by rw [Nat.pow_add, Nat.mul_assoc]
  rw [e, Nat.mul_div_cancel _ (Nat.two_pow_pos k), Nat.mul_mod_left]
  have h := Nat.two_pow_pos k
  have h1 : ¬ 2 ^ k < 2 * 0 := by omega
  have h2 : ¬ 2 ^ k = 2 * 0 := by omega
  simp [h1]
theorem cutE_scale (n d k : Nat) : cutE (n * 2 ^ k) (d + k) = cutE n d := by
  unfold cutE
  have hk := Nat.two_pow_pos k
  have e1 : n * 2 ^ k / 2 ^ (d + k) = n / 2 ^ d := by rw [Nat.pow_add, Nat.mul_div_mul_right _ _ hk]
  have e2 : n * 2 ^ k % 2 ^ (d + k) = n % 2 ^ d * 2 ^ k := by rw [Nat.pow_add, Nat.mul_mod_mul_right]
  rw [e1, e2]
  have e3 : 2 ^ (d + k) = 2 ^ d * 2 ^ k := Nat.pow_add _ _ _
  have e4 : 2 * (n % 2 ^ d * 2 ^ k) = 2 * (n % 2 ^ d) * 2 ^ k := by rw [Nat.mul_assoc]
  rw [e3, e4]
  have l1 : (2 ^ d * 2 ^ k < 2 * (n % 2 ^ d) * 2 ^ k) ↔ (2 ^ d < 2 * (n % 2 ^ d)) := Nat.mul_lt_mul_right hk
  have l2 : (2 ^ d * 2 ^ k == 2 * (n % 2 ^ d) * 2 ^ k) = (2 ^ d == 2 * (n % 2 ^ d)) := by
    rw [Bool.eq_iff_iff, beq_iff_eq, beq_iff_eq]
    exact ⟨fun h => Nat.eq_of_mul_eq_mul_right hk h, fun h => congrArg (· * 2 ^ k) h⟩
  simp only [l1, l2]

section
variable (f : Format)
/-- The last place that is kept. -/
def lastP (m : Nat) (p : Int) : Int := max (p + m.log2 - f.fractionBits) f.leastPlace
def keptP (m : Nat) (p : Int) : Nat := cutE (m <<< (p - lastP f m p).toNat) (lastP f m p - p).toNat
/-- The rung of a magnitude. -/
def rungP (m : Nat) (p : Int) : Nat := if m = 0 then 0 else min ((lastP f m p - f.leastPlace).toNat * f.binade + keptP f m p) f.infRung
theorem nearest_rung (neg : Bool) (m : Nat) (p : Int) : f.nearest neg m p = f.word neg (rungP f m p) := by
  unfold Format.nearest rungP
  split
  · rfl
  · unfold keptP
    dsimp only
    rw [cut_even]
    rfl
theorem log2_scale {m : Nat} (hm : m ≠ 0) (k : Nat) : (m * 2 ^ k).log2 = m.log2 + k := by
  have h1 := Nat.log2_self_le hm
  have h2 : m < 2 ^ (m.log2 + 1) := Nat.lt_log2_self
  have hk := Nat.two_pow_pos k
  rw [Nat.log2_eq_iff (by exact Nat.mul_ne_zero hm (by omega))]
  constructor
  · rw [Nat.pow_add]; exact Nat.mul_le_mul_right _ h1
  · rw [show m.log2 + k + 1 = m.log2 + 1 + k by omega, Nat.pow_add]; exact (Nat.mul_lt_mul_right hk).2 h2
/-- The rung tells just the value. -/
theorem rungP_scale (m : Nat) (p : Int) (k : Nat) : rungP f (m * 2 ^ k) (p - k) = rungP f m p := by
  unfold rungP
  by_cases hm : m = 0
  · simp [hm]
  · have hk := Nat.two_pow_pos k
    have hm2 : m * 2 ^ k ≠ 0 := Nat.mul_ne_zero hm (by omega)
    rw [if_neg hm, if_neg hm2]
    have hl : lastP f (m * 2 ^ k) (p - k) = lastP f m p := by
      unfold lastP
      rw [log2_scale hm]
      congr 1
      omega
    rw [hl]
    congr 2
    unfold keptP
    rw [hl]
    obtain ⟨l, el⟩ : ∃ l, lastP f m p = l := ⟨_, rfl⟩
    rw [el]
    rw [Nat.shiftLeft_eq, Nat.shiftLeft_eq]
    rcases Int.lt_or_le l p with h | h
    · -- shift left by j
      obtain ⟨j, hj⟩ : ∃ j : Nat, p - l = j := ⟨(p - l).toNat, by omega⟩
      have e1 : (p - l).toNat = j := by omega
      have e2 : (l - p).toNat = 0 := by omega
      rw [e1, e2, cutE_zero]
      rcases Nat.lt_or_ge j k with c | c
      · have e3 : (p - k - l).toNat = 0 := by omega
        have e4 : (l - (p - k)).toNat = k - j := by omega
        rw [e3, e4, Nat.pow_zero, Nat.mul_one]
        have := cutE_exact m j (k - j)
        rwa [show j + (k - j) = k by omega] at this
      · have e3 : (p - k - l).toNat = j - k := by omega
        have e4 : (l - (p - k)).toNat = 0 := by omega
        rw [e3, e4, cutE_zero, Nat.mul_assoc, ← Nat.pow_add]
        congr 2
        omega
    · have e1 : (p - l).toNat = 0 := by omega
      have e3 : (p - k - l).toNat = 0 := by omega
      have e4 : (l - (p - k)).toNat = (l - p).toNat + k := by omega
      rw [e1, e3, e4, Nat.pow_zero, Nat.mul_one, Nat.mul_one, cutE_scale]
theorem log2_mono {a b : Nat} (ha : a ≠ 0) (h : a ≤ b) : a.log2 ≤ b.log2 := by
  have hb : b ≠ 0 := by omega
  have h1 := Nat.log2_self_le ha
  exact (Nat.le_log2 hb).2 (Nat.le_trans h1 h)
theorem rungP_mono {a b : Nat} (p : Int) (h : a ≤ b) : rungP f a p ≤ rungP f b p := by
  unfold rungP
  by_cases ha : a = 0
  · rw [if_pos ha]; exact Nat.zero_le _
  · have hb : b ≠ 0 := by omega
    rw [if_neg ha, if_neg hb]
    have hlog := log2_mono ha h
    have hL : lastP f a p ≤ lastP f b p := by unfold lastP; omega
    suffices hs : (lastP f a p - f.leastPlace).toNat * f.binade + keptP f a p ≤ (lastP f b p - f.leastPlace).toNat * f.binade + keptP f b p by omega
    rcases Int.lt_or_eq_of_le hL with hlt | heq
    · have hbig : lastP f b p = p + b.log2 - f.fractionBits := by unfold lastP at hlt ⊢; omega
      have ha1 : p + a.log2 - f.fractionBits ≤ lastP f a p := by unfold lastP; omega
      have hal : f.leastPlace ≤ lastP f a p := by unfold lastP; omega
      have k2 : f.binade ≤ keptP f b p := by
        unfold keptP
        rw [hbig, Nat.shiftLeft_eq]
        have hb1 := Nat.log2_self_le hb
        rcases Nat.lt_or_ge b.log2 f.fractionBits with c | c
        · have e1 : (p - (p + b.log2 - f.fractionBits)).toNat = f.fractionBits - b.log2 := by omega
          have e2 : (p + b.log2 - f.fractionBits - p).toNat = 0 := by omega
          rw [e1, e2, cutE_zero]
          unfold Format.binade
          calc 2 ^ f.fractionBits = 2 ^ b.log2 * 2 ^ (f.fractionBits - b.log2) := by rw [← Nat.pow_add]; congr 1; omega
            _ ≤ b * 2 ^ (f.fractionBits - b.log2) := Nat.mul_le_mul_right _ hb1
        · have e1 : (p - (p + b.log2 - f.fractionBits)).toNat = 0 := by omega
          have e2 : (p + b.log2 - f.fractionBits - p).toNat = b.log2 - f.fractionBits := by omega
          rw [e1, e2, Nat.pow_zero, Nat.mul_one]
          refine Nat.le_trans ?_ (cutE_ge _ _)
          rw [Nat.le_div_iff_mul_le (Nat.two_pow_pos _)]
          unfold Format.binade
          rw [← Nat.pow_add, show f.fractionBits + (b.log2 - f.fractionBits) = b.log2 by omega]
          exact hb1
      have k1 : keptP f a p ≤ 2 * f.binade := by
        unfold keptP
        rw [Nat.shiftLeft_eq]
        have hb1 : a < 2 ^ (a.log2 + 1) := Nat.lt_log2_self
        obtain ⟨l, el⟩ : ∃ l, lastP f a p = l := ⟨_, rfl⟩
        rw [el] at ha1 ⊢
        have e0 : 2 * f.binade = 2 ^ (f.fractionBits + 1) := by unfold Format.binade; rw [Nat.pow_succ, Nat.mul_comm]
        rw [e0]
        rcases Int.lt_or_le l p with c | c
        · have e2 : (l - p).toNat = 0 := by omega
          rw [e2, cutE_zero]
          have e1 : a.log2 + 1 + (p - l).toNat ≤ f.fractionBits + 1 := by omega
          calc a * 2 ^ (p - l).toNat ≤ 2 ^ (a.log2 + 1) * 2 ^ (p - l).toNat := Nat.mul_le_mul_right _ (Nat.le_of_lt hb1)
            _ = 2 ^ (a.log2 + 1 + (p - l).toNat) := (Nat.pow_add _ _ _).symm
            _ ≤ 2 ^ (f.fractionBits + 1) := Nat.pow_le_pow_right (by omega) e1
        · have e1 : (p - l).toNat = 0 := by omega
          rw [e1, Nat.pow_zero, Nat.mul_one]
          refine Nat.le_trans (cutE_le _ _) ?_
          have e2 : a.log2 + 1 ≤ f.fractionBits + 1 + (l - p).toNat := by omega
          have : a / 2 ^ (l - p).toNat < 2 ^ (f.fractionBits + 1) := by
            rw [Nat.div_lt_iff_lt_mul (Nat.two_pow_pos _), ← Nat.pow_add]
            exact Nat.lt_of_lt_of_le hb1 (Nat.pow_le_pow_right (by omega) e2)
          omega
      obtain ⟨x, hx⟩ : ∃ x : Nat, lastP f a p - f.leastPlace = x := ⟨(lastP f a p - f.leastPlace).toNat, by omega⟩
      obtain ⟨y, hy⟩ : ∃ y : Nat, lastP f b p - f.leastPlace = y := ⟨(lastP f b p - f.leastPlace).toNat, by omega⟩
      have e1 : (lastP f a p - f.leastPlace).toNat = x := by omega
      have e2 : (lastP f b p - f.leastPlace).toNat = y := by omega
      rw [e1, e2]
      have hxy : x + 1 ≤ y := by omega
      have := Nat.mul_le_mul_right f.binade hxy
      rw [Nat.add_mul, Nat.one_mul] at this
      omega
    · rw [heq]
      apply Nat.add_le_add_left
      unfold keptP
      rw [heq]
      apply cutE_mono
      rw [Nat.shiftLeft_eq, Nat.shiftLeft_eq]
      exact Nat.mul_le_mul_right _ h
/-- What a rung stands for, in units of the least magnitude. -/
def magV (r : Nat) : Nat := if r < f.binade then r else (f.binade + r % f.binade) * 2 ^ (r / f.binade - 1)
/-- A magnitude of the format is its own nearest. -/
theorem rungP_self {r : Nat} (hr : r ≤ f.infRung) : rungP f (magV f r) f.leastPlace = r := by
  have hB : 0 < f.binade := Nat.two_pow_pos _
  unfold magV
  split
  · rename_i h
    unfold rungP
    by_cases h0 : r = 0
    · rw [if_pos h0]; exact h0.symm
    · rw [if_neg h0]
      have hlog : r.log2 < f.fractionBits := (Nat.log2_lt h0).2 h
      have hl : lastP f r f.leastPlace = f.leastPlace := by unfold lastP; omega
      unfold keptP
      rw [hl]
      have e1 : (f.leastPlace - f.leastPlace).toNat = 0 := by omega
      rw [e1, cutE_zero, Nat.shiftLeft_zero]
      omega
  · rename_i h
    have hq : 1 ≤ r / f.binade := (Nat.le_div_iff_mul_le hB).2 (by omega)
    have hd := Nat.div_add_mod r f.binade
    have hm := Nat.mod_lt r hB
    obtain ⟨k, hk⟩ : ∃ k, r / f.binade - 1 = k := ⟨_, rfl⟩
    rw [hk]
    have e0 : f.leastPlace = (f.leastPlace + k) - k := by omega
    rw [e0, rungP_scale]
    unfold rungP
    have hne : f.binade + r % f.binade ≠ 0 := by omega
    rw [if_neg hne]
    have hlog : (f.binade + r % f.binade).log2 = f.fractionBits := by
      rw [Nat.log2_eq_iff hne]
      unfold Format.binade at hm ⊢
      rw [Nat.pow_succ]
      omega
    have hl : lastP f (f.binade + r % f.binade) (f.leastPlace + k) = f.leastPlace + k := by unfold lastP; rw [hlog]; omega
    unfold keptP
    rw [hl]
    have e1 : (f.leastPlace + k - (f.leastPlace + k)).toNat = 0 := by omega
    have e2 : (f.leastPlace + (k : Int) - f.leastPlace).toNat = k := by omega
    rw [e1, e2, cutE_zero, Nat.shiftLeft_zero]
    have h3 : r / f.binade * f.binade = k * f.binade + f.binade := by
      rw [show r / f.binade = k + 1 by omega, Nat.add_mul, Nat.one_mul]
    rw [Nat.mul_comm] at hd
    omega
theorem magV_step (r : Nat) : magV f r ≤ magV f (r + 1) := by
  have hB : 0 < f.binade := Nat.two_pow_pos _
  unfold magV
  have hd := Nat.div_add_mod r f.binade
  have hm := Nat.mod_lt r hB
  have hd1 := Nat.div_add_mod (r + 1) f.binade
  have hm1 := Nat.mod_lt (r + 1) hB
  by_cases c : r + 1 < f.binade
  · rw [if_pos c, if_pos (by omega)]; omega
  · rw [if_neg c]
    by_cases c2 : r < f.binade
    · rw [if_pos c2]
      have e1 : (r + 1) / f.binade = 1 := by
        have : r + 1 = f.binade := by omega
        rw [this, Nat.div_self hB]
      rw [e1]
      simp
      omega
    · rw [if_neg c2]
      have hq : 1 ≤ r / f.binade := (Nat.le_div_iff_mul_le hB).2 (by omega)
      rcases Nat.lt_or_ge (r % f.binade + 1) f.binade with c3 | c3
      · have e1 : (r + 1) / f.binade = r / f.binade := by
          rw [Nat.div_eq_iff hB]
          rw [Nat.mul_comm] at hd
          constructor
          · omega
          · have : (r / f.binade + 1) * f.binade = r / f.binade * f.binade + f.binade := Nat.succ_mul _ _
            omega
        have e2 : (r + 1) % f.binade = r % f.binade + 1 := by
          rw [e1] at hd1
          omega
        rw [e1, e2]
        exact Nat.mul_le_mul_right _ (by omega)
      · have e0 : r % f.binade + 1 = f.binade := by omega
        have e1 : (r + 1) / f.binade = r / f.binade + 1 := by
          rw [Nat.div_eq_iff hB]
          rw [Nat.mul_comm] at hd
          have h2 : (r / f.binade + 1) * f.binade = r / f.binade * f.binade + f.binade := Nat.succ_mul _ _
          have h3 : (r / f.binade + 1 + 1) * f.binade = (r / f.binade + 1) * f.binade + f.binade := Nat.succ_mul _ _
          constructor <;> omega
        rw [e1]
        obtain ⟨k, hk⟩ : ∃ k, r / f.binade = k + 1 := ⟨r / f.binade - 1, by omega⟩
        rw [hk]
        have e3 : k + 1 + 1 - 1 = k + 1 := by omega
        have e4 : k + 1 - 1 = k := by omega
        rw [e3, e4, Nat.pow_succ]
        calc (f.binade + r % f.binade) * 2 ^ k ≤ (2 * f.binade) * 2 ^ k := Nat.mul_le_mul_right _ (by omega)
          _ = f.binade * (2 ^ k * 2) := by rw [Nat.mul_comm 2, Nat.mul_assoc, Nat.mul_comm 2]
          _ ≤ (f.binade + (r + 1) % f.binade) * (2 ^ k * 2) := Nat.mul_le_mul_right _ (by omega)
theorem magV_mono {a b : Nat} (h : a ≤ b) : magV f a ≤ magV f b := by
  induction b with
  | zero => obtain rfl : a = 0 := by omega
            exact Nat.le_refl _
  | succ b ih =>
    rcases Nat.eq_or_lt_of_le h with e | e
    · rw [e]; exact Nat.le_refl _
    · exact Nat.le_trans (ih (by omega)) (magV_step f b)
theorem inf_lt : f.infRung < f.signWeight := by
  unfold Format.infRung Format.signWeight Format.binade
  rw [Nat.pow_add]
  have h1 := Nat.two_pow_pos f.exponentBits
  exact (Nat.mul_lt_mul_right (Nat.two_pow_pos _)).2 (by omega)
/-- A word of a finite magnitude, read. -/
theorem read_word {s : Bool} {r : Nat} (hr : r < f.infRung) : f.read (f.word s r) = if r < f.binade then .number s r f.leastPlace else .number s (f.binade + r % f.binade) (f.leastPlace + (r / f.binade - 1 : Nat)) := by
  have hl := inf_lt f
  have hsw : 0 < f.signWeight := Nat.two_pow_pos _
  have e1 : f.word s r % f.signWeight = r := by
    unfold Format.word
    cases s
    · simp only [Bool.false_eq_true, if_false]; exact Nat.mod_eq_of_lt (by omega)
    · simp only [if_true]; rw [Nat.add_mod_left]; exact Nat.mod_eq_of_lt (by omega)
  have e2 : (f.word s r / f.signWeight % 2 == 1) = s := by
    unfold Format.word
    cases s
    · simp only [Bool.false_eq_true, if_false]; rw [Nat.div_eq_of_lt (by omega)]; rfl
    · simp only [if_true]; rw [Nat.add_div_left _ hsw, Nat.div_eq_of_lt (by omega)]; rfl
  unfold Format.read
  rw [e1, e2]
  simp only
  by_cases c : r < f.binade
  · rw [if_pos c, if_pos c]
  · rw [if_neg c, if_neg c, if_pos hr]
/-- A finite word in units of the least magnitude. -/
def sval (w : Nat) : Int := match f.read w with | .number s m p => signed s m (p - f.leastPlace).toNat | _ => 0
theorem sval_word {s : Bool} {r : Nat} (hr : r < f.infRung) : sval f (f.word s r) = if s then -(magV f r : Int) else (magV f r : Int) := by
  unfold sval
  rw [read_word f hr]
  by_cases c : r < f.binade
  · rw [if_pos c]
    unfold magV signed
    rw [if_pos c]
    have e : (f.leastPlace - f.leastPlace).toNat = 0 := by omega
    simp only [e, Nat.shiftLeft_zero]
  · rw [if_neg c]
    unfold magV signed
    rw [if_neg c]
    have e : (f.leastPlace + ((r / f.binade - 1 : Nat) : Int) - f.leastPlace).toNat = r / f.binade - 1 := by omega
    simp only [e, Nat.shiftLeft_eq]
/-- Rounding keeps below what is below a number of the format. -/
theorem rungP_le {m rc : Nat} {p b : Int} (hb : b ≤ p) (hb2 : b ≤ f.leastPlace) (hrc : rc ≤ f.infRung) (h : m * 2 ^ (p - b).toNat ≤ magV f rc * 2 ^ (f.leastPlace - b).toNat) : rungP f m p ≤ rc := by
  have h1 := rungP_mono f b h
  have e1 := rungP_scale f m p (p - b).toNat
  rw [show p - ((p - b).toNat : Int) = b by omega] at e1
  have e2 := rungP_scale f (magV f rc) f.leastPlace (f.leastPlace - b).toNat
  rw [show f.leastPlace - ((f.leastPlace - b).toNat : Int) = b by omega] at e2
  rw [e1, e2, rungP_self f hrc] at h1
  exact h1
theorem rungP_ge {m rc : Nat} {p b : Int} (hb : b ≤ p) (hb2 : b ≤ f.leastPlace) (hrc : rc ≤ f.infRung) (h : magV f rc * 2 ^ (f.leastPlace - b).toNat ≤ m * 2 ^ (p - b).toNat) : rc ≤ rungP f m p := by
  have h1 := rungP_mono f b h
  have e1 := rungP_scale f m p (p - b).toNat
  rw [show p - ((p - b).toNat : Int) = b by omega] at e1
  have e2 := rungP_scale f (magV f rc) f.leastPlace (f.leastPlace - b).toNat
  rw [show f.leastPlace - ((f.leastPlace - b).toNat : Int) = b by omega] at e2
  rw [e1, e2, rungP_self f hrc] at h1
  exact h1
end
end Go.Proofs.Ytkldgcgijkfpaaa.Rnd
