/- Plain law: rounding to the nearest keeps the order and fixes what the format holds. -/
import Derived.Test.YtkldgcgijkfpaaaRows
import Ieee.Arith
import Derived.Laws.FloatArith
namespace Go.Proofs.Ytkldgcgijkfpaaa.Rnd
open Ieee

/-- Cut to the nearest, without the short way. -/
def cutE (n drop : Nat) : Nat := n / 2 ^ drop + (decide (2 ^ drop < 2 * (n % 2 ^ drop)) || (2 ^ drop == 2 * (n % 2 ^ drop) && n / 2 ^ drop % 2 == 1)).toNat
theorem cut_even (neg : Bool) (n drop : Nat) : Toward.even.cut neg n drop = cutE n drop := by
  unfold Toward.cut cutE
  simp only
  rcases Nat.lt_or_ge (n.log2 + 2) drop with h | h
  · rw [Nat.min_eq_right (by omega)]
    have h0 : n < 2 ^ (n.log2 + 1) := Nat.lt_log2_self
    have e1 : 2 ^ (n.log2 + 2) = 2 * 2 ^ (n.log2 + 1) := by rw [Nat.pow_succ, Nat.mul_comm]
    have h1 : 2 ^ (n.log2 + 2) ≤ 2 ^ drop := Nat.pow_le_pow_right (by omega) (by omega)
    have m1 : n % 2 ^ (n.log2 + 2) = n := Nat.mod_eq_of_lt (by omega)
    have m2 : n % 2 ^ drop = n := Nat.mod_eq_of_lt (by omega)
    have d1 : n / 2 ^ (n.log2 + 2) = 0 := Nat.div_eq_of_lt (by omega)
    have d2 : n / 2 ^ drop = 0 := Nat.div_eq_of_lt (by omega)
    rw [Nat.one_shiftLeft, m1, m2, d1, d2]
    have a1 : ¬ 2 ^ (n.log2 + 2) < 2 * n := by omega
    have a2 : ¬ 2 ^ drop < 2 * n := by omega
    simp [a1, a2]
  · rw [Nat.min_eq_left (by omega), Nat.one_shiftLeft]
theorem cutE_mono {a b d : Nat} (h : a ≤ b) : cutE a d ≤ cutE b d := by
  unfold cutE
  have hq : a / 2 ^ d ≤ b / 2 ^ d := Nat.div_le_div_right h
  have b1 : ∀ p : Bool, p.toNat ≤ 1 := fun p => by cases p <;> simp
  rcases Nat.eq_or_lt_of_le hq with e | e
  · rw [e]
    have ha := Nat.div_add_mod a (2 ^ d)
    have hb := Nat.div_add_mod b (2 ^ d)
    rw [e] at ha
    have hr : a % 2 ^ d ≤ b % 2 ^ d := by omega
    apply Nat.add_le_add_left
    cases hp : (decide (2 ^ d < 2 * (a % 2 ^ d)) || (2 ^ d == 2 * (a % 2 ^ d) && b / 2 ^ d % 2 == 1)) with
    | false => simp
    | true =>
      have : (decide (2 ^ d < 2 * (b % 2 ^ d)) || (2 ^ d == 2 * (b % 2 ^ d) && b / 2 ^ d % 2 == 1)) = true := by
        simp only [Bool.or_eq_true, decide_eq_true_eq, Bool.and_eq_true, beq_iff_eq] at hp ⊢
        rcases hp with hp | ⟨h1, h2⟩
        · left; omega
        · rcases Nat.lt_or_ge (2 ^ d) (2 * (b % 2 ^ d)) with c | c
          · left; exact c
          · right; exact ⟨by omega, h2⟩
      rw [this]
      exact Nat.le_refl _
  · have := b1 (decide (2 ^ d < 2 * (a % 2 ^ d)) || (2 ^ d == 2 * (a % 2 ^ d) && a / 2 ^ d % 2 == 1))
    omega
theorem cutE_ge (n d : Nat) : n / 2 ^ d ≤ cutE n d := by unfold cutE; omega
theorem cutE_le (n d : Nat) : cutE n d ≤ n / 2 ^ d + 1 := by
  unfold cutE
  have b1 : ∀ p : Bool, p.toNat ≤ 1 := fun p => by cases p <;> simp
  have := b1 (decide (2 ^ d < 2 * (n % 2 ^ d)) || (2 ^ d == 2 * (n % 2 ^ d) && n / 2 ^ d % 2 == 1))
  omega
theorem cutE_zero (n : Nat) : cutE n 0 = n := by unfold cutE; simp [Nat.mod_one]
/-- Where what is cut off is nothing. -/
theorem cutE_exact (n j k : Nat) : cutE (n * 2 ^ (j + k)) k = n * 2 ^ j := by
  unfold cutE
  have e : n * 2 ^ (j + k) = n * 2 ^ j * 2 ^ k := by rw [Nat.pow_add, Nat.mul_assoc]
  rw [e, Nat.mul_div_cancel _ (Nat.two_pow_pos k), Nat.mul_mod_left]
  have h := Nat.two_pow_pos k
  have h1 : ¬ 2 ^ k < 2 * 0 := by omega
  have h2 : ¬ 2 ^ k = 2 * 0 := by omega
  simp [h1]
theorem cutE_scale (n d k : Nat) : cutE (n * 2 ^ k) (d + k) = cutE n d := by
  unfold cutE
  have hk := Nat.two_pow_pos k
  have e1 : n * 2 ^ k / 2 ^ (d + k) = n / 2 ^ d := by rw [Nat.pow_add, Nat.mul_div_mul_right _ _ hk]
  have e2 : n * 2 ^ k % 2 ^ (d + k) = n % 2 ^ d * 2 ^ k := by rw [Nat.pow_add, Nat.mul_mod_mul_right]
  rw [e1, e2]
  have e3 : 2 ^ (d + k) = 2 ^ d * 2 ^ k := Nat.pow_add _ _ _
  have e4 : 2 * (n % 2 ^ d * 2 ^ k) = 2 * (n % 2 ^ d) * 2 ^ k := by rw [Nat.mul_assoc]
  rw [e3, e4]
  have l1 : (2 ^ d * 2 ^ k < 2 * (n % 2 ^ d) * 2 ^ k) ↔ (2 ^ d < 2 * (n % 2 ^ d)) := Nat.mul_lt_mul_right hk
  have l2 : (2 ^ d * 2 ^ k == 2 * (n % 2 ^ d) * 2 ^ k) = (2 ^ d == 2 * (n % 2 ^ d)) := by
    rw [Bool.eq_iff_iff, beq_iff_eq, beq_iff_eq]
    exact ⟨fun h => Nat.eq_of_mul_eq_mul_right hk h, fun h => congrArg (· * 2 ^ k) h⟩
  simp only [l1, l2]

section
variable (f : Format)
/-- The last place that is kept. -/
def lastP (m : Nat) (p : Int) : Int := max (p + m.log2 - f.fractionBits) f.leastPlace
def keptP (m : Nat) (p : Int) : Nat := cutE (m <<< (p - lastP f m p).toNat) (lastP f m p - p).toNat
/-- The rung of a magnitude. -/
def rungP (m : Nat) (p : Int) : Nat := if m = 0 then 0 else min ((lastP f m p - f.leastPlace).toNat * f.binade + keptP f m p) f.infRung
theorem nearest_rung (neg : Bool) (m : Nat) (p : Int) : f.nearest neg m p = f.word neg (rungP f m p) := by
  unfold Format.nearest rungP
  split
  · rfl
  · unfold keptP
    dsimp only
    rw [cut_even]
    rfl
theorem log2_scale {m : Nat} (hm : m ≠ 0) (k : Nat) : (m * 2 ^ k).log2 = m.log2 + k := by
  have h1 := Nat.log2_self_le hm
  have h2 : m < 2 ^ (m.log2 + 1) := Nat.lt_log2_self
  have hk := Nat.two_pow_pos k
  rw [Nat.log2_eq_iff (by exact Nat.mul_ne_zero hm (by omega))]
  constructor
  · rw [Nat.pow_add]; exact Nat.mul_le_mul_right _ h1
  · rw [show m.log2 + k + 1 = m.log2 + 1 + k by omega, Nat.pow_add]; exact (Nat.mul_lt_mul_right hk).2 h2
/-- The rung tells just the value. -/
theorem rungP_scale (m : Nat) (p : Int) (k : Nat) : rungP f (m * 2 ^ k) (p - k) = rungP f m p := by
  unfold rungP
  by_cases hm : m = 0
  · simp [hm]
  · have hk := Nat.two_pow_pos k
    have hm2 : m * 2 ^ k ≠ 0 := Nat.mul_ne_zero hm (by omega)
    rw [if_neg hm, if_neg hm2]
    have hl : lastP f (m * 2 ^ k) (p - k) = lastP f m p := by
      unfold lastP
      rw [log2_scale hm]
      congr 1
      omega
    rw [hl]
    congr 2
    unfold keptP
    rw [hl]
    obtain ⟨l, el⟩ : ∃ l, lastP f m p = l := ⟨_, rfl⟩
    rw [el]
    rw [Nat.shiftLeft_eq, Nat.shiftLeft_eq]
    rcases Int.lt_or_le l p with h | h
    · -- shift left by j
      obtain ⟨j, hj⟩ : ∃ j : Nat, p - l = j := ⟨(p - l).toNat, by omega⟩
      have e1 : (p - l).toNat = j := by omega
      have e2 : (l - p).toNat = 0 := by omega
      rw [e1, e2, cutE_zero]
      rcases Nat.lt_or_ge j k with c | c
      · have e3 : (p - k - l).toNat = 0 := by omega
        have e4 : (l - (p - k)).toNat = k - j := by omega
        rw [e3, e4, Nat.pow_zero, Nat.mul_one]
        have := cutE_exact m j (k - j)
        rwa [show j + (k - j) = k by omega] at this
      · have e3 : (p - k - l).toNat = j - k := by omega
        have e4 : (l - (p - k)).toNat = 0 := by omega
        rw [e3, e4, cutE_zero, Nat.mul_assoc, ← Nat.pow_add]
        congr 2
        omega
    · have e1 : (p - l).toNat = 0 := by omega
      have e3 : (p - k - l).toNat = 0 := by omega
      have e4 : (l - (p - k)).toNat = (l - p).toNat + k := by omega
      rw [e1, e3, e4, Nat.pow_zero, Nat.mul_one, Nat.mul_one, cutE_scale]
theorem log2_mono {a b : Nat} (ha : a ≠ 0) (h : a ≤ b) : a.log2 ≤ b.log2 := by
  have hb : b ≠ 0 := by omega
  have h1 := Nat.log2_self_le ha
  exact (Nat.le_log2 hb).2 (Nat.le_trans h1 h)
theorem rungP_mono {a b : Nat} (p : Int) (h : a ≤ b) : rungP f a p ≤ rungP f b p := by
  unfold rungP
  by_cases ha : a = 0
  · rw [if_pos ha]; exact Nat.zero_le _
  · have hb : b ≠ 0 := by omega
    rw [if_neg ha, if_neg hb]
    have hlog := log2_mono ha h
    have hL : lastP f a p ≤ lastP f b p := by unfold lastP; omega
    suffices hs : (lastP f a p - f.leastPlace).toNat * f.binade + keptP f a p ≤ (lastP f b p - f.leastPlace).toNat * f.binade + keptP f b p by omega
    rcases Int.lt_or_eq_of_le hL with hlt | heq
    · have hbig : lastP f b p = p + b.log2 - f.fractionBits := by unfold lastP at hlt ⊢; omega
      have ha1 : p + a.log2 - f.fractionBits ≤ lastP f a p := by unfold lastP; omega
      have hal : f.leastPlace ≤ lastP f a p := by unfold lastP; omega
      have k2 : f.binade ≤ keptP f b p := by
        unfold keptP
        rw [hbig, Nat.shiftLeft_eq]
        have hb1 := Nat.log2_self_le hb
        rcases Nat.lt_or_ge b.log2 f.fractionBits with c | c
        · have e1 : (p - (p + b.log2 - f.fractionBits)).toNat = f.fractionBits - b.log2 := by omega
          have e2 : (p + b.log2 - f.fractionBits - p).toNat = 0 := by omega
          rw [e1, e2, cutE_zero]
          unfold Format.binade
          calc 2 ^ f.fractionBits = 2 ^ b.log2 * 2 ^ (f.fractionBits - b.log2) := by rw [← Nat.pow_add]; congr 1; omega
            _ ≤ b * 2 ^ (f.fractionBits - b.log2) := Nat.mul_le_mul_right _ hb1
        · have e1 : (p - (p + b.log2 - f.fractionBits)).toNat = 0 := by omega
          have e2 : (p + b.log2 - f.fractionBits - p).toNat = b.log2 - f.fractionBits := by omega
          rw [e1, e2, Nat.pow_zero, Nat.mul_one]
          refine Nat.le_trans ?_ (cutE_ge _ _)
          rw [Nat.le_div_iff_mul_le (Nat.two_pow_pos _)]
          unfold Format.binade
          rw [← Nat.pow_add, show f.fractionBits + (b.log2 - f.fractionBits) = b.log2 by omega]
          exact hb1
      have k1 : keptP f a p ≤ 2 * f.binade := by
        unfold keptP
        rw [Nat.shiftLeft_eq]
        have hb1 : a < 2 ^ (a.log2 + 1) := Nat.lt_log2_self
        obtain ⟨l, el⟩ : ∃ l, lastP f a p = l := ⟨_, rfl⟩
        rw [el] at ha1 ⊢
        have e0 : 2 * f.binade = 2 ^ (f.fractionBits + 1) := by unfold Format.binade; rw [Nat.pow_succ, Nat.mul_comm]
        rw [e0]
        rcases Int.lt_or_le l p with c | c
        · have e2 : (l - p).toNat = 0 := by omega
          rw [e2, cutE_zero]
          have e1 : a.log2 + 1 + (p - l).toNat ≤ f.fractionBits + 1 := by omega
          calc a * 2 ^ (p - l).toNat ≤ 2 ^ (a.log2 + 1) * 2 ^ (p - l).toNat := Nat.mul_le_mul_right _ (Nat.le_of_lt hb1)
            _ = 2 ^ (a.log2 + 1 + (p - l).toNat) := (Nat.pow_add _ _ _).symm
            _ ≤ 2 ^ (f.fractionBits + 1) := Nat.pow_le_pow_right (by omega) e1
        · have e1 : (p - l).toNat = 0 := by omega
          rw [e1, Nat.pow_zero, Nat.mul_one]
          refine Nat.le_trans (cutE_le _ _) ?_
          have e2 : a.log2 + 1 ≤ f.fractionBits + 1 + (l - p).toNat := by omega
          have : a / 2 ^ (l - p).toNat < 2 ^ (f.fractionBits + 1) := by
            rw [Nat.div_lt_iff_lt_mul (Nat.two_pow_pos _), ← Nat.pow_add]
            exact Nat.lt_of_lt_of_le hb1 (Nat.pow_le_pow_right (by omega) e2)
          omega
      obtain ⟨x, hx⟩ : ∃ x : Nat, lastP f a p - f.leastPlace = x := ⟨(lastP f a p - f.leastPlace).toNat, by omega⟩
      obtain ⟨y, hy⟩ : ∃ y : Nat, lastP f b p - f.leastPlace = y := ⟨(lastP f b p - f.leastPlace).toNat, by omega⟩
      have e1 : (lastP f a p - f.leastPlace).toNat = x := by omega
      have e2 : (lastP f b p - f.leastPlace).toNat = y := by omega
      rw [e1, e2]
      have hxy : x + 1 ≤ y := by omega
      have := Nat.mul_le_mul_right f.binade hxy
      rw [Nat.add_mul, Nat.one_mul] at this
      omega
    · rw [heq]
      apply Nat.add_le_add_left
      unfold keptP
      rw [heq]
      apply cutE_mono
      rw [Nat.shiftLeft_eq, Nat.shiftLeft_eq]
      exact Nat.mul_le_mul_right _ h
/-- What a rung stands for, in units of the least magnitude. -/
def magV (r : Nat) : Nat := if r < f.binade then r else (f.binade + r % f.binade) * 2 ^ (r / f.binade - 1)
/-- A magnitude of the format is its own nearest. -/
theorem rungP_self {r : Nat} (hr : r ≤ f.infRung) : rungP f (magV f r) f.leastPlace = r := by
  have hB : 0 < f.binade := Nat.two_pow_pos _
  unfold magV
  split
  · rename_i h
    unfold rungP
    by_cases h0 : r = 0
    · rw [if_pos h0]; exact h0.symm
    · rw [if_neg h0]
      have hlog : r.log2 < f.fractionBits := (Nat.log2_lt h0).2 h
      have hl : lastP f r f.leastPlace = f.leastPlace := by unfold lastP; omega
      unfold keptP
      rw [hl]
      have e1 : (f.leastPlace - f.leastPlace).toNat = 0 := by omega
      rw [e1, cutE_zero, Nat.shiftLeft_zero]
      omega
  · rename_i h
    have hq : 1 ≤ r / f.binade := (Nat.le_div_iff_mul_le hB).2 (by omega)
    have hd := Nat.div_add_mod r f.binade
    have hm := Nat.mod_lt r hB
    obtain ⟨k, hk⟩ : ∃ k, r / f.binade - 1 = k := ⟨_, rfl⟩
    rw [hk]
    have e0 : f.leastPlace = (f.leastPlace + k) - k := by omega
    rw [e0, rungP_scale]
    unfold rungP
    have hne : f.binade + r % f.binade ≠ 0 := by omega
    rw [if_neg hne]
    have hlog : (f.binade + r % f.binade).log2 = f.fractionBits := by
      rw [Nat.log2_eq_iff hne]
      unfold Format.binade at hm ⊢
      rw [Nat.pow_succ]
      omega
    have hl : lastP f (f.binade + r % f.binade) (f.leastPlace + k) = f.leastPlace + k := by unfold lastP; rw [hlog]; omega
    unfold keptP
    rw [hl]
    have e1 : (f.leastPlace + k - (f.leastPlace + k)).toNat = 0 := by omega
    have e2 : (f.leastPlace + (k : Int) - f.leastPlace).toNat = k := by omega
    rw [e1, e2, cutE_zero, Nat.shiftLeft_zero]
    have h3 : r / f.binade * f.binade = k * f.binade + f.binade := by
      rw [show r / f.binade = k + 1 by omega, Nat.add_mul, Nat.one_mul]
    rw [Nat.mul_comm] at hd
    omega
theorem magV_step (r : Nat) : magV f r ≤ magV f (r + 1) := by
  have hB : 0 < f.binade := Nat.two_pow_pos _
  unfold magV
  have hd := Nat.div_add_mod r f.binade
  have hm := Nat.mod_lt r hB
  have hd1 := Nat.div_add_mod (r + 1) f.binade
  have hm1 := Nat.mod_lt (r + 1) hB
  by_cases c : r + 1 < f.binade
  · rw [if_pos c, if_pos (by omega)]; omega
  · rw [if_neg c]
    by_cases c2 : r < f.binade
    · rw [if_pos c2]
      have e1 : (r + 1) / f.binade = 1 := by
        have : r + 1 = f.binade := by omega
        rw [this, Nat.div_self hB]
      rw [e1]
      simp
      omega
    · rw [if_neg c2]
      have hq : 1 ≤ r / f.binade := (Nat.le_div_iff_mul_le hB).2 (by omega)
      rcases Nat.lt_or_ge (r % f.binade + 1) f.binade with c3 | c3
      · have e1 : (r + 1) / f.binade = r / f.binade := by
          rw [Nat.div_eq_iff hB]
          rw [Nat.mul_comm] at hd
          constructor
          · omega
          · have : (r / f.binade + 1) * f.binade = r / f.binade * f.binade + f.binade := Nat.succ_mul _ _
            omega
        have e2 : (r + 1) % f.binade = r % f.binade + 1 := by
          rw [e1] at hd1
          omega
        rw [e1, e2]
        exact Nat.mul_le_mul_right _ (by omega)
      · have e0 : r % f.binade + 1 = f.binade := by omega
        have e1 : (r + 1) / f.binade = r / f.binade + 1 := by
          rw [Nat.div_eq_iff hB]
          rw [Nat.mul_comm] at hd
          have h2 : (r / f.binade + 1) * f.binade = r / f.binade * f.binade + f.binade := Nat.succ_mul _ _
          have h3 : (r / f.binade + 1 + 1) * f.binade = (r / f.binade + 1) * f.binade + f.binade := Nat.succ_mul _ _
          constructor <;> omega
        rw [e1]
        obtain ⟨k, hk⟩ : ∃ k, r / f.binade = k + 1 := ⟨r / f.binade - 1, by omega⟩
        rw [hk]
        have e3 : k + 1 + 1 - 1 = k + 1 := by omega
        have e4 : k + 1 - 1 = k := by omega
        rw [e3, e4, Nat.pow_succ]
        calc (f.binade + r % f.binade) * 2 ^ k ≤ (2 * f.binade) * 2 ^ k := Nat.mul_le_mul_right _ (by omega)
          _ = f.binade * (2 ^ k * 2) := by rw [Nat.mul_comm 2, Nat.mul_assoc, Nat.mul_comm 2]
          _ ≤ (f.binade + (r + 1) % f.binade) * (2 ^ k * 2) := Nat.mul_le_mul_right _ (by omega)
theorem magV_mono {a b : Nat} (h : a ≤ b) : magV f a ≤ magV f b := by
  induction b with
  | zero => obtain rfl : a = 0 := by omega
            exact Nat.le_refl _
  | succ b ih =>
    rcases Nat.eq_or_lt_of_le h with e | e
    · rw [e]; exact Nat.le_refl _
    · exact Nat.le_trans (ih (by omega)) (magV_step f b)
theorem inf_lt : f.infRung < f.signWeight := by
  unfold Format.infRung Format.signWeight Format.binade
  rw [Nat.pow_add]
  have h1 := Nat.two_pow_pos f.exponentBits
  exact (Nat.mul_lt_mul_right (Nat.two_pow_pos _)).2 (by omega)
/-- A word of a finite magnitude, read. -/
theorem read_word {s : Bool} {r : Nat} (hr : r < f.infRung) : f.read (f.word s r) = if r < f.binade then .number s r f.leastPlace else .number s (f.binade + r % f.binade) (f.leastPlace + (r / f.binade - 1 : Nat)) := by
  have hl := inf_lt f
  have hsw : 0 < f.signWeight := Nat.two_pow_pos _
  have e1 : f.word s r % f.signWeight = r := by
    unfold Format.word
    cases s
    · simp only [Bool.false_eq_true, if_false]; exact Nat.mod_eq_of_lt (by omega)
    · simp only [if_true]; rw [Nat.add_mod_left]; exact Nat.mod_eq_of_lt (by omega)
  have e2 : (f.word s r / f.signWeight % 2 == 1) = s := by
    unfold Format.word
    cases s
    · simp only [Bool.false_eq_true, if_false]; rw [Nat.div_eq_of_lt (by omega)]; rfl
    · simp only [if_true]; rw [Nat.add_div_left _ hsw, Nat.div_eq_of_lt (by omega)]; rfl
  unfold Format.read
  rw [e1, e2]
  simp only
  by_cases c : r < f.binade
  · rw [if_pos c, if_pos c]
  · rw [if_neg c, if_neg c, if_pos hr]
/-- A finite word in units of the least magnitude. -/
def sval (w : Nat) : Int := match f.read w with | .number s m p => signed s m (p - f.leastPlace).toNat | _ => 0
theorem sval_word {s : Bool} {r : Nat} (hr : r < f.infRung) : sval f (f.word s r) = if s then -(magV f r : Int) else (magV f r : Int) := by
  unfold sval
  rw [read_word f hr]
  by_cases c : r < f.binade
  · rw [if_pos c]
    unfold magV signed
    rw [if_pos c]
    have e : (f.leastPlace - f.leastPlace).toNat = 0 := by omega
    simp only [e, Nat.shiftLeft_zero]
  · rw [if_neg c]
    unfold magV signed
    rw [if_neg c]
    have e : (f.leastPlace + ((r / f.binade - 1 : Nat) : Int) - f.leastPlace).toNat = r / f.binade - 1 := by omega
    simp only [e, Nat.shiftLeft_eq]
/-- Rounding keeps below what is below a number of the format. -/
theorem rungP_le {m rc : Nat} {p b : Int} (hb : b ≤ p) (hb2 : b ≤ f.leastPlace) (hrc : rc ≤ f.infRung) (h : m * 2 ^ (p - b).toNat ≤ magV f rc * 2 ^ (f.leastPlace - b).toNat) : rungP f m p ≤ rc := by
  have h1 := rungP_mono f b h
  have e1 := rungP_scale f m p (p - b).toNat
  rw [show p - ((p - b).toNat : Int) = b by omega] at e1
  have e2 := rungP_scale f (magV f rc) f.leastPlace (f.leastPlace - b).toNat
  rw [show f.leastPlace - ((f.leastPlace - b).toNat : Int) = b by omega] at e2
  rw [e1, e2, rungP_self f hrc] at h1
  exact h1
theorem rungP_ge {m rc : Nat} {p b : Int} (hb : b ≤ p) (hb2 : b ≤ f.leastPlace) (hrc : rc ≤ f.infRung) (h : magV f rc * 2 ^ (f.leastPlace - b).toNat ≤ m * 2 ^ (p - b).toNat) : rc ≤ rungP f m p := by
  have h1 := rungP_mono f b h
  have e1 := rungP_scale f m p (p - b).toNat
  rw [show p - ((p - b).toNat : Int) = b by omega] at e1
  have e2 := rungP_scale f (magV f rc) f.leastPlace (f.leastPlace - b).toNat
  rw [show f.leastPlace - ((f.leastPlace - b).toNat : Int) = b by omega] at e2
  rw [e1, e2, rungP_self f hrc] at h1
  exact h1
end
end Go.Proofs.Ytkldgcgijkfpaaa.Rnd

namespace Go.Proofs.Ytkldgcgijkfpaaa.Quick
open Ieee
open Go.Proofs.Ytkldgcgijkfpaaa.Rnd

/-- Forces a number before it goes on. -/
def fo {α : Type} (n : Nat) (k : Nat → α) : α := Nat.rec (k 0) (fun m _ => k (Nat.succ m)) n
theorem fo_eq {α : Type} (n : Nat) (k : Nat → α) : fo n k = k n := by cases n <;> rfl
theorem cond_ble {α : Type} (a b : Nat) (x y : α) : cond (Nat.ble a b) x y = if a ≤ b then x else y := by
  by_cases h : a ≤ b
  · rw [if_pos h, Nat.ble_eq_true_of_le h]; rfl
  · rw [if_neg h]
    have : Nat.ble a b = false := by
      cases e : Nat.ble a b
      · rfl
      · exact absurd (Nat.le_of_ble_eq_true e) h
    rw [this]; rfl
theorem cond_beq {α : Type} (a b : Nat) (x y : α) : cond (Nat.beq a b) x y = if a = b then x else y := by
  by_cases h : a = b
  · rw [if_pos h, h, show Nat.beq b b = true from Nat.beq_refl b]; rfl
  · rw [if_neg h]
    have : Nat.beq a b = false := by
      cases e : Nat.beq a b
      · rfl
      · exact absurd (Nat.eq_of_beq_eq_true e) h
    rw [this]; rfl
/-- The logarithm by halving. -/
def lgL : List Nat → Nat → Nat
  | [], _ => 0
  | k :: ks, n => fo (Nat.shiftRight n k) fun m => cond (Nat.beq m 0) (lgL ks n) (Nat.add k (lgL ks m))
def lg (n : Nat) : Nat := cond (Nat.ble 340282366920938463463374607431768211456 n) (Nat.log2 n) (lgL [64, 32, 16, 8, 4, 2, 1] n)
theorem log2_uniq {n k : Nat} (h1 : 2 ^ k ≤ n) (h2 : n < 2 ^ (k + 1)) : n.log2 = k := by
  have hn : n ≠ 0 := by have := Nat.two_pow_pos k; omega
  exact (Nat.log2_eq_iff hn).2 ⟨h1, h2⟩
theorem log2_shift {n k : Nat} (h : n / 2 ^ k ≠ 0) : n.log2 = k + (n / 2 ^ k).log2 := by
  have h1 := Nat.log2_self_le h
  have h2 : n / 2 ^ k < 2 ^ ((n / 2 ^ k).log2 + 1) := Nat.lt_log2_self
  have hk := Nat.two_pow_pos k
  apply log2_uniq
  · rw [Nat.add_comm, Nat.pow_add]
    exact Nat.le_trans (Nat.mul_le_mul_right _ h1) (Nat.div_mul_le_self n _)
  · rw [show k + (n / 2 ^ k).log2 + 1 = (n / 2 ^ k).log2 + 1 + k by omega, Nat.pow_add]
    exact (Nat.div_lt_iff_lt_mul hk).1 h2
theorem lgL_step {k : Nat} {ks : List Nat} {b : Nat} (hs : ∀ n, n < 2 ^ b → lgL ks n = n.log2) (hk : k ≤ b) {n : Nat} (h : n < 2 ^ (b + k)) (hb : b ≤ k) : lgL (k :: ks) n = n.log2 := by
  obtain rfl : k = b := by omega
  unfold lgL
  rw [fo_eq, cond_beq]
  show (if n >>> k = 0 then _ else _) = _
  rw [Nat.shiftRight_eq_div_pow]
  by_cases c : n / 2 ^ k = 0
  · rw [if_pos c]
    apply hs
    have := Nat.lt_of_div_eq_zero (Nat.two_pow_pos k) c
    exact this
  · rw [if_neg c, log2_shift c]
    show k + lgL ks (n >>> k) = _
    rw [Nat.shiftRight_eq_div_pow, hs]
    rw [Nat.div_lt_iff_lt_mul (Nat.two_pow_pos k), ← Nat.pow_add]
    exact h
theorem lg_eq (n : Nat) : lg n = n.log2 := by
  unfold lg
  rw [cond_ble]
  by_cases c : 340282366920938463463374607431768211456 ≤ n
  · rw [if_pos c]
  · rw [if_neg c]
    have s0 : ∀ n, n < 2 ^ 1 → lgL [] n = n.log2 := by
      intro n hn
      rcases n with _ | _ | n
      · rfl
      · rfl
      · omega
    have s1 : ∀ n, n < 2 ^ 2 → lgL [1] n = n.log2 := fun n h => lgL_step s0 (Nat.le_refl _) h (Nat.le_refl _)
    have s2 : ∀ n, n < 2 ^ 4 → lgL [2, 1] n = n.log2 := fun n h => lgL_step s1 (Nat.le_refl _) h (Nat.le_refl _)
    have s3 : ∀ n, n < 2 ^ 8 → lgL [4, 2, 1] n = n.log2 := fun n h => lgL_step s2 (Nat.le_refl _) h (Nat.le_refl _)
    have s4 : ∀ n, n < 2 ^ 16 → lgL [8, 4, 2, 1] n = n.log2 := fun n h => lgL_step s3 (Nat.le_refl _) h (Nat.le_refl _)
    have s5 : ∀ n, n < 2 ^ 32 → lgL [16, 8, 4, 2, 1] n = n.log2 := fun n h => lgL_step s4 (Nat.le_refl _) h (Nat.le_refl _)
    have s6 : ∀ n, n < 2 ^ 64 → lgL [32, 16, 8, 4, 2, 1] n = n.log2 := fun n h => lgL_step s5 (Nat.le_refl _) h (Nat.le_refl _)
    exact lgL_step s6 (Nat.le_refl _) (by omega) (Nat.le_refl _)
/-- The logarithm by a guess. -/
def lgG (g n : Nat) : Nat :=
  fo (Nat.shiftRight n g) fun q => cond (Nat.beq q 1) g (cond (Nat.beq (Nat.shiftRight q 1) 1) (Nat.succ g) (lg n))
theorem lgG_eq (g n : Nat) : lgG g n = n.log2 := by
  unfold lgG
  rw [fo_eq, cond_beq]
  show (if n >>> g = 1 then _ else cond (Nat.beq (n >>> g >>> 1) 1) _ _) = _
  rw [cond_beq]
  have hg := Nat.two_pow_pos g
  by_cases c : n >>> g = 1
  · rw [if_pos c]
    rw [Nat.shiftRight_eq_div_pow] at c
    rw [log2_shift (k := g) (by omega), c]
    rfl
  · rw [if_neg c]
    by_cases c2 : n >>> g >>> 1 = 1
    · rw [if_pos c2]
      rw [← Nat.shiftRight_add, Nat.shiftRight_eq_div_pow] at c2
      rw [log2_shift (k := g + 1) (by omega), c2]
      rfl
    · rw [if_neg c2, lg_eq]
/-- Cut to the nearest. -/
def rne (n d : Nat) : Nat := cond (Nat.beq d 0) n (Nat.shiftRight (Nat.add n (Nat.add (Nat.sub (Nat.shiftLeft 1 (Nat.sub d 1)) 1) (Nat.land (Nat.shiftRight n d) 1))) d)
theorem rne_aux (h q r : Nat) (hr : r < 2 * h) : (2 * h * q + r + (h - 1 + q % 2)) / (2 * h) = q + (decide (2 * h < 2 * r) || (2 * h == 2 * r && q % 2 == 1)).toNat := by
  have hq := Nat.mod_two_eq_zero_or_one q
  have hh : 0 < h := by omega
  generalize q % 2 = t at *
  obtain ⟨Q, hQ⟩ : ∃ Q, 2 * h * q = Q := ⟨_, rfl⟩
  have k0 : r + (h - 1 + t) < 2 * h → (2 * h * q + r + (h - 1 + t)) / (2 * h) = q := by
    intro h1
    rw [Nat.div_eq_iff (by omega), Nat.mul_comm q, hQ]
    omega
  have k1 : 2 * h ≤ r + (h - 1 + t) → (2 * h * q + r + (h - 1 + t)) / (2 * h) = q + 1 := by
    intro h1
    rw [Nat.div_eq_iff (by omega), Nat.mul_comm (q + 1), Nat.mul_succ, hQ]
    omega
  by_cases c1 : 2 * h < 2 * r
  · have : (decide (2 * h < 2 * r) || (2 * h == 2 * r && t == 1)) = true := by rw [decide_eq_true c1]; rfl
    rw [this]
    exact k1 (by omega)
  · have d1 : decide (2 * h < 2 * r) = false := decide_eq_false c1
    rw [d1, Bool.false_or]
    by_cases c2 : h = r ∧ t = 1
    · obtain ⟨c2, c3⟩ := c2
      have : (2 * h == 2 * r && t == 1) = true := by rw [c2, c3]; simp
      rw [this]
      exact k1 (by omega)
    · have : (2 * h == 2 * r && t == 1) = false := by
        rw [Bool.eq_false_iff]
        intro hc
        rw [Bool.and_eq_true, beq_iff_eq, beq_iff_eq] at hc
        omega
      rw [this]
      exact k0 (by omega)
theorem rne_eq (n d : Nat) : rne n d = cutE n d := by
  unfold rne
  rw [cond_beq]
  show (if d = 0 then n else (n + ((1 <<< (d - 1) - 1) + (n >>> d &&& 1))) >>> d) = _
  by_cases c : d = 0
  · rw [if_pos c, c, cutE_zero]
  · rw [if_neg c]
    obtain ⟨e, rfl⟩ : ∃ e, d = e + 1 := ⟨d - 1, by omega⟩
    rw [Nat.add_sub_cancel, Nat.one_shiftLeft, Nat.shiftRight_eq_div_pow, Nat.shiftRight_eq_div_pow, Nat.and_one_is_mod]
    unfold cutE
    have hp : 2 ^ (e + 1) = 2 * 2 ^ e := by rw [Nat.pow_succ, Nat.mul_comm]
    have h0 := Nat.two_pow_pos e
    rw [hp]
    have hm := Nat.mod_lt n (show 0 < 2 * 2 ^ e by omega)
    have := rne_aux (2 ^ e) (n / (2 * 2 ^ e)) (n % (2 * 2 ^ e)) hm
    rw [Nat.div_add_mod] at this
    exact this
def nmax (a b : Nat) : Nat := cond (Nat.ble a b) b a
def nmin (a b : Nat) : Nat := cond (Nat.ble a b) a b
theorem nmax_eq (a b : Nat) : nmax a b = max a b := by unfold nmax; rw [cond_ble, Nat.max_def]
theorem nmin_eq (a b : Nat) : nmin a b = min a b := by unfold nmin; rw [cond_ble, Nat.min_def]
/-- The word that is nearest to n times two to the power of P - T, in units of the least magnitude. -/
def fnear (fb B inf sw : Nat) (T g s n P : Nat) : Nat :=
  cond (Nat.beq n 0) (Nat.mul s sw)
  (fo (nmax (Nat.sub (Nat.add P (lgG g n)) fb) T) fun L =>
   fo (cond (Nat.ble L P) (Nat.shiftLeft n (Nat.sub P L)) (rne n (Nat.sub L P))) fun kept =>
   Nat.add (Nat.mul s sw) (nmin (Nat.add (Nat.mul (Nat.sub L T) B) kept) inf))
theorem word_toNat (f : Format) (s : Bool) (r : Nat) : f.word s r = s.toNat * f.signWeight + r := by
  cases s <;> simp [Format.word]
theorem fnear_eq (f : Format) (T g : Nat) (s : Bool) (n P : Nat) (p : Int) (hp : p = f.leastPlace + P - T) :
    fnear f.fractionBits f.binade f.infRung f.signWeight T g s.toNat n P = f.nearest s n p := by
  rw [nearest_rung, word_toNat]
  unfold fnear
  rw [cond_beq]
  by_cases h0 : n = 0
  · rw [if_pos h0, h0]
    unfold rungP
    rw [if_pos rfl]
    rfl
  · rw [if_neg h0, fo_eq, fo_eq, nmax_eq, nmin_eq, lgG_eq, cond_ble, rne_eq]
    unfold rungP
    rw [if_neg h0]
    have eL : ((max (P + n.log2 - f.fractionBits) T : Nat) : Int) = lastP f n p - f.leastPlace + T := by
      unfold lastP
      omega
    obtain ⟨L, hL⟩ : ∃ L, max (P + n.log2 - f.fractionBits) T = L := ⟨_, rfl⟩
    obtain ⟨l, hl⟩ : ∃ l, lastP f n p = l := ⟨_, rfl⟩
    have hLT : T ≤ L := by omega
    show s.toNat * f.signWeight + min ((max (P + n.log2 - f.fractionBits) T - T) * f.binade + (if max (P + n.log2 - f.fractionBits) T ≤ P then n <<< (P - max (P + n.log2 - f.fractionBits) T) else cutE n (max (P + n.log2 - f.fractionBits) T - P))) f.infRung = _
    unfold keptP
    rw [hL, hl] at eL
    rw [hL, hl]
    have e1 : (l - f.leastPlace).toNat = L - T := by omega
    rw [e1]
    congr 4
    by_cases c : L ≤ P
    · rw [if_pos c]
      have e2 : (l - p).toNat = 0 := by omega
      have e3 : (p - l).toNat = P - L := by omega
      rw [e2, e3, cutE_zero]
    · rw [if_neg c]
      have e2 : (l - p).toNat = L - P := by omega
      have e3 : (p - l).toNat = 0 := by omega
      rw [e2, e3, Nat.shiftLeft_zero]
end Go.Proofs.Ytkldgcgijkfpaaa.Quick

namespace Go.Proofs.Ytkldgcgijkfpaaa.Quick
open Ieee
open Go.Proofs.Ytkldgcgijkfpaaa.Rnd

/-- The place of a rung over the least one. -/
def exq (B r : Nat) : Nat := Nat.sub (Nat.div r B) 1
def maq (B r : Nat) : Nat := cond (Nat.ble B r) (Nat.add B (Nat.mod r B)) r
def sgq (sw x : Nat) : Nat := Nat.mod (Nat.div x sw) 2
theorem sgq_eq (sw x : Nat) : sgq sw x = (x / sw % 2 == 1).toNat := by
  show x / sw % 2 = _
  rcases Nat.mod_two_eq_zero_or_one (x / sw) with h | h <;> rw [h] <;> rfl
section
variable (f : Format)
theorem binade_le_inf : f.binade ≤ f.infRung ∨ f.exponentBits = 0 := by
  by_cases h : f.exponentBits = 0
  · exact .inr h
  · left
    unfold Format.infRung
    have : 2 ^ 1 ≤ 2 ^ f.exponentBits := Nat.pow_le_pow_right (by omega) (by omega)
    exact Nat.le_mul_of_pos_left _ (by omega)
theorem read_num {x : Nat} (h : x % f.signWeight < f.infRung) : f.read x = .number (x / f.signWeight % 2 == 1) (maq f.binade (x % f.signWeight)) (f.leastPlace + (exq f.binade (x % f.signWeight) : Nat)) := by
  unfold Format.read maq exq
  rw [cond_ble]
  have hB : 0 < f.binade := Nat.two_pow_pos _
  by_cases c : x % f.signWeight < f.binade
  · simp only [if_pos c]
    rw [if_neg (by omega)]
    have : (x % f.signWeight).div f.binade = 0 := Nat.div_eq_of_lt c
    rw [this]
    show _ = Datum.number _ _ (f.leastPlace + 0)
    rw [Int.add_zero]
  · simp only [if_neg c, if_pos h]
    rw [if_pos (by omega)]
    rfl
/-- The product. -/
def fmulP (fb B inf sw lam : Nat) (slow : Unit → Option Nat) (x y : Nat) : Option Nat :=
  fo (Nat.mod x sw) fun rx => fo (Nat.mod y sw) fun ry =>
  cond (Nat.ble inf rx) (slow ()) (cond (Nat.ble inf ry) (slow ())
  (fo (Nat.mul (maq B rx) (maq B ry)) fun n => fo (Nat.add (exq B rx) (exq B ry)) fun P => fo (Nat.mod (Nat.add (sgq sw x) (sgq sw y)) 2) fun s =>
    some (fnear fb B inf sw lam (Nat.add fb fb) s n P)))
theorem xor_toNat (s t : Bool) : (s.toNat + t.toNat) % 2 = (s ^^ t).toNat := by cases s <;> cases t <;> rfl
theorem fmulP_eq {lam : Nat} (hl : f.leastPlace = -(lam : Int)) (x y : Nat) : fmulP f.fractionBits f.binade f.infRung f.signWeight lam (fun _ => f.mul x y) x y = f.mul x y := by
  unfold fmulP
  rw [fo_eq, fo_eq, cond_ble, cond_ble]
  show (if f.infRung ≤ x % f.signWeight then _ else if f.infRung ≤ y % f.signWeight then _ else _) = _
  by_cases hx : f.infRung ≤ x % f.signWeight
  · rw [if_pos hx]
  · rw [if_neg hx]
    by_cases hy : f.infRung ≤ y % f.signWeight
    · rw [if_pos hy]
    · rw [if_neg hy, fo_eq, fo_eq, fo_eq]
      unfold Format.mul
      rw [read_num f (x := x) (by omega), read_num f (x := y) (by omega)]
      show some (fnear _ _ _ _ _ _ ((sgq f.signWeight x + sgq f.signWeight y) % 2) (maq f.binade (x % f.signWeight) * maq f.binade (y % f.signWeight)) (exq f.binade (x % f.signWeight) + exq f.binade (y % f.signWeight))) = some (f.nearest _ (maq f.binade (x % f.signWeight) * maq f.binade (y % f.signWeight)) _)
      rw [sgq_eq, sgq_eq, xor_toNat]
      congr 1
      exact fnear_eq f _ _ _ _ _ _ (by omega)
/-- The sum of magnitudes A and C with signs, at a place. -/
def fsumP (fb B inf sw g sx sy A C P : Nat) : Option Nat :=
  cond (Nat.beq sx sy) (some (fnear fb B inf sw 0 g sx (Nat.add A C) P))
  (cond (Nat.beq A C) (some 0) (cond (Nat.ble C A) (some (fnear fb B inf sw 0 (Nat.sub g 1) sx (Nat.sub A C) P)) (some (fnear fb B inf sw 0 (Nat.sub g 1) sy (Nat.sub C A) P))))
def faddP (fb B inf sw : Nat) (slow : Unit → Option Nat) (flip x y : Nat) : Option Nat :=
  fo (Nat.mod x sw) fun rx => fo (Nat.mod y sw) fun ry =>
  cond (Nat.ble inf rx) (slow ()) (cond (Nat.ble inf ry) (slow ())
  (fo (exq B rx) fun ex => fo (exq B ry) fun ey => fo (nmin ex ey) fun P =>
   fo (Nat.shiftLeft (maq B rx) (Nat.sub ex P)) fun A => fo (Nat.shiftLeft (maq B ry) (Nat.sub ey P)) fun C =>
   fo (sgq sw x) fun sx => fo (Nat.mod (Nat.add (sgq sw y) flip) 2) fun sy =>
   fsumP fb B inf sw (Nat.add fb (Nat.sub (nmax ex ey) P)) sx sy A C P))
theorem signed_shift (s : Bool) (m k : Nat) : signed s m k = signed s (m <<< k) 0 := by unfold signed; rw [Nat.shiftLeft_zero]
theorem signed_eq (s : Bool) (m : Nat) : signed s m 0 = if s then -(m : Int) else (m : Int) := by unfold signed; rw [Nat.shiftLeft_zero]
theorem toNat_inj {s t : Bool} : s.toNat = t.toNat ↔ s = t := by cases s <;> cases t <;> decide
theorem fsumP_eq (g P A C : Nat) (s t : Bool) : fsumP f.fractionBits f.binade f.infRung f.signWeight g s.toNat t.toNat A C P =
    some (f.nearest (if signed s A 0 + signed t C 0 = 0 then s && t else decide (signed s A 0 + signed t C 0 < 0)) (signed s A 0 + signed t C 0).natAbs (f.leastPlace + P)) := by
  unfold fsumP
  rw [cond_beq, cond_beq, cond_ble, signed_eq, signed_eq]
  by_cases hst : s.toNat = t.toNat
  · rw [if_pos hst]
    obtain rfl := toNat_inj.1 hst
    congr 1
    rw [fnear_eq f 0 g s (Nat.add A C) P (f.leastPlace + P) (by omega)]
    show f.nearest s (A + C) _ = _
    cases s
    · simp only [Bool.false_eq_true, if_false]
      congr 1
      · split
        · rfl
        · exact (decide_eq_false (by omega)).symm
    · simp only [if_true]
      congr 1
      · split
        · rfl
        · exact (decide_eq_true (by omega)).symm
      · omega
  · rw [if_neg hst]
    obtain rfl : t = !s := by cases s <;> cases t <;> first | rfl | exact absurd rfl hst
    by_cases hAC : A = C
    · rw [if_pos hAC, hAC]
      congr 1
      have e0 : ((if s = true then -(C : Int) else (C : Int)) + (if (!s) = true then -(C : Int) else (C : Int))) = 0 := by cases s <;> simp <;> omega
      rw [e0]
      simp only [if_true, Int.natAbs_zero]
      rw [nearest_rung]
      have e1 : (s && !s) = false := by cases s <;> rfl
      rw [e1]
      unfold rungP
      rw [if_pos rfl]
      rfl
    · rw [if_neg hAC]
      have e2 : (if s = true then -(A : Int) else (A : Int)) + (if (!s) = true then -(C : Int) else (C : Int)) = if s = true then (C : Int) - A else (A : Int) - C := by cases s <;> simp <;> omega
      rw [e2]
      have e3 : (if s = true then (C : Int) - A else (A : Int) - C) ≠ 0 := by cases s <;> simp <;> omega
      rw [if_neg e3]
      by_cases hc : C ≤ A
      · rw [if_pos hc, fnear_eq f 0 _ s (Nat.sub A C) P (f.leastPlace + P) (by omega)]
        show some (f.nearest s (A - C) _) = _
        congr 2
        · cases s <;> simp <;> omega
        · cases s <;> simp <;> omega
      · rw [if_neg hc, fnear_eq f 0 _ (!s) (Nat.sub C A) P (f.leastPlace + P) (by omega)]
        show some (f.nearest (!s) (C - A) _) = _
        congr 2
        · cases s <;> simp <;> omega
        · cases s <;> simp <;> omega
theorem faddP_sum {x y : Nat} (b : Bool) (hx : x % f.signWeight < f.infRung) (hy : y % f.signWeight < f.infRung) (slow : Unit → Option Nat) :
    faddP f.fractionBits f.binade f.infRung f.signWeight slow b.toNat x y = ((f.read x).sum (if b then (f.read y).opposite else f.read y)).map f.write := by
  unfold faddP
  rw [fo_eq, fo_eq, cond_ble, cond_ble]
  show (if f.infRung ≤ x % f.signWeight then _ else if f.infRung ≤ y % f.signWeight then _ else _) = _
  rw [if_neg (by omega), if_neg (by omega), fo_eq, fo_eq, fo_eq, fo_eq, fo_eq, fo_eq, fo_eq]
  rw [read_num f hx, read_num f hy, sgq_eq]
  obtain ⟨sx, esx⟩ : ∃ s, (x / f.signWeight % 2 == 1) = s := ⟨_, rfl⟩
  obtain ⟨sy, esy⟩ : ∃ s, (y / f.signWeight % 2 == 1) = s := ⟨_, rfl⟩
  have e1 : (sgq f.signWeight y).add b.toNat % 2 = (sy ^^ b).toNat := by
    rw [sgq_eq, esy]
    exact xor_toNat sy b
  have e2 : (if b then (Datum.number sy (maq f.binade (y % f.signWeight)) (f.leastPlace + (exq f.binade (y % f.signWeight) : Nat))).opposite else Datum.number sy (maq f.binade (y % f.signWeight)) (f.leastPlace + (exq f.binade (y % f.signWeight) : Nat))) = Datum.number (sy ^^ b) (maq f.binade (y % f.signWeight)) (f.leastPlace + (exq f.binade (y % f.signWeight) : Nat)) := by
    cases b <;> cases sy <;> rfl
  rw [esx, esy, e2]
  show fsumP _ _ _ _ _ sx.toNat ((sgq f.signWeight y).add b.toNat % 2) _ _ _ = _
  rw [e1, fsumP_eq, nmin_eq]
  obtain ⟨ex, hex⟩ : ∃ e, exq f.binade (x % f.signWeight) = e := ⟨_, rfl⟩
  obtain ⟨ey, hey⟩ : ∃ e, exq f.binade (y % f.signWeight) = e := ⟨_, rfl⟩
  have hex2 : exq f.binade (x.mod f.signWeight) = ex := hex
  have hey2 : exq f.binade (y.mod f.signWeight) = ey := hey
  rw [hex, hey, hex2, hey2]
  have b1 : min (f.leastPlace + (ex : Int)) (f.leastPlace + (ey : Int)) = f.leastPlace + ((min ex ey : Nat) : Int) := by omega
  have b2 : (f.leastPlace + (ex : Int) - (f.leastPlace + ((min ex ey : Nat) : Int))).toNat = ex - min ex ey := by omega
  have b3 : (f.leastPlace + (ey : Int) - (f.leastPlace + ((min ex ey : Nat) : Int))).toNat = ey - min ex ey := by omega
  unfold Datum.sum
  simp only [b1, b2, b3]
  rw [signed_shift sx (maq f.binade (x % f.signWeight)), signed_shift (sy ^^ b) (maq f.binade (y % f.signWeight))]
  rfl
theorem faddP_eq (x y : Nat) : faddP f.fractionBits f.binade f.infRung f.signWeight (fun _ => f.add x y) 0 x y = f.add x y := by
  by_cases hx : x % f.signWeight < f.infRung
  · by_cases hy : y % f.signWeight < f.infRung
    · exact faddP_sum f false hx hy _
    · unfold faddP
      rw [fo_eq, fo_eq, cond_ble, cond_ble]
      show (if f.infRung ≤ x % f.signWeight then _ else if f.infRung ≤ y % f.signWeight then _ else _) = _
      rw [if_neg (by omega), if_pos (by omega)]
  · unfold faddP
    rw [fo_eq, fo_eq, cond_ble]
    show (if f.infRung ≤ x % f.signWeight then _ else _) = _
    rw [if_pos (by omega)]
theorem fsubP_eq (x y : Nat) : faddP f.fractionBits f.binade f.infRung f.signWeight (fun _ => f.sub x y) 1 x y = f.sub x y := by
  by_cases hx : x % f.signWeight < f.infRung
  · by_cases hy : y % f.signWeight < f.infRung
    · exact faddP_sum f true hx hy _
    · unfold faddP
      rw [fo_eq, fo_eq, cond_ble, cond_ble]
      show (if f.infRung ≤ x % f.signWeight then _ else if f.infRung ≤ y % f.signWeight then _ else _) = _
      rw [if_neg (by omega), if_pos (by omega)]
  · unfold faddP
    rw [fo_eq, fo_eq, cond_ble]
    show (if f.infRung ≤ x % f.signWeight then _ else _) = _
    rw [if_pos (by omega)]
/-- The quotient. -/
def fdivP (fb B inf sw lam : Nat) (slow : Unit → Option Nat) (x y : Nat) : Option Nat :=
  fo (Nat.mod x sw) fun rx => fo (Nat.mod y sw) fun ry =>
  cond (Nat.ble inf rx) (slow ()) (cond (Nat.ble inf ry) (slow ()) (cond (Nat.beq ry 0) (slow ())
  (fo (maq B rx) fun mx => fo (maq B ry) fun my =>
   fo (Nat.sub (Nat.add (Nat.add fb 2) (lgG fb my)) (lgG fb mx)) fun more =>
   fo (Nat.shiftLeft mx more) fun dv => fo (Nat.add (Nat.mul 2 (Nat.div dv my)) (cond (Nat.beq (Nat.mod dv my) 0) 0 1)) fun n =>
   fo (Nat.add (Nat.add (exq B ry) more) 1) fun d => fo (Nat.add (exq B rx) (Nat.add 4096 lam)) fun u =>
   cond (Nat.ble d u) (fo (Nat.sub u d) fun P => fo (Nat.mod (Nat.add (sgq sw x) (sgq sw y)) 2) fun s => some (fnear fb B inf sw 4096 (Nat.add fb 2) s n P)) (slow ()))))
theorem maq_zero {B r : Nat} (hB : 0 < B) (h : maq B r = 0) : r = 0 := by
  unfold maq at h
  rw [cond_ble] at h
  split at h
  · have : B + r % B = 0 := h
    omega
  · exact h
theorem quotient_num (d : Nat) (s t : Bool) (m : Nat) {n : Nat} (i j : Int) (h : n ≠ 0) : (Datum.number s m i).quotient d (Datum.number t n j) =
    some (.number (s ^^ t) (2 * (m <<< (d + n.log2 - m.log2) / n) + (m <<< (d + n.log2 - m.log2) % n != 0).toNat) (i - j - ((d + n.log2 - m.log2 : Nat) : Int) - 1)) := by
  unfold Datum.quotient
  simp only [if_neg h]
theorem fdivP_eq {lam : Nat} (hl : f.leastPlace = -(lam : Int)) (x y : Nat) : fdivP f.fractionBits f.binade f.infRung f.signWeight lam (fun _ => f.div x y) x y = f.div x y := by
  unfold fdivP
  rw [fo_eq, fo_eq, cond_ble, cond_ble, cond_beq]
  show (if f.infRung ≤ x % f.signWeight then _ else if f.infRung ≤ y % f.signWeight then _ else if y % f.signWeight = 0 then _ else _) = _
  by_cases hx : f.infRung ≤ x % f.signWeight
  · rw [if_pos hx]
  · rw [if_neg hx]
    by_cases hy : f.infRung ≤ y % f.signWeight
    · rw [if_pos hy]
    · rw [if_neg hy]
      by_cases h0 : y % f.signWeight = 0
      · rw [if_pos h0]
      · rw [if_neg h0, fo_eq, fo_eq, fo_eq, fo_eq, fo_eq, fo_eq, fo_eq, cond_ble, fo_eq, fo_eq, lgG_eq, lgG_eq]
        have hB : 0 < f.binade := Nat.two_pow_pos _
        have hm0 : maq f.binade (y % f.signWeight) ≠ 0 := fun h => h0 (maq_zero hB h)
        obtain ⟨mx, emx⟩ : ∃ m, maq f.binade (x % f.signWeight) = m := ⟨_, rfl⟩
        obtain ⟨my, emy⟩ : ∃ m, maq f.binade (y % f.signWeight) = m := ⟨_, rfl⟩
        have emx2 : maq f.binade (x.mod f.signWeight) = mx := emx
        have emy2 : maq f.binade (y.mod f.signWeight) = my := emy
        obtain ⟨ex, hex⟩ : ∃ e, exq f.binade (x % f.signWeight) = e := ⟨_, rfl⟩
        obtain ⟨ey, hey⟩ : ∃ e, exq f.binade (y % f.signWeight) = e := ⟨_, rfl⟩
        have hex2 : exq f.binade (x.mod f.signWeight) = ex := hex
        have hey2 : exq f.binade (y.mod f.signWeight) = ey := hey
        rw [emx2, emy2, hex2, hey2]
        rw [emy] at hm0
        obtain ⟨more, hmore⟩ : ∃ m, f.fractionBits + 2 + my.log2 - mx.log2 = m := ⟨_, rfl⟩
        have hmore2 : ((f.fractionBits.add 2).add my.log2).sub mx.log2 = more := hmore
        rw [hmore2]
        split
        · rename_i hle
          unfold Format.div
          rw [read_num f (x := x) (by omega), read_num f (x := y) (by omega), emx, emy, hex, hey]
          rw [quotient_num _ _ _ _ _ _ hm0, hmore]
          show _ = some (f.nearest _ _ _)
          rw [sgq_eq, sgq_eq]
          show some (fnear _ _ _ _ _ _ (((x / f.signWeight % 2 == 1).toNat + (y / f.signWeight % 2 == 1).toNat) % 2) _ _) = _
          rw [xor_toNat, cond_beq]
          congr 1
          have e1 : Nat.add (Nat.mul 2 (Nat.div (Nat.shiftLeft mx more) my)) (if Nat.mod (Nat.shiftLeft mx more) my = 0 then 0 else 1) = 2 * (mx <<< more / my) + (mx <<< more % my != 0).toNat := by
            show 2 * (mx <<< more / my) + (if mx <<< more % my = 0 then 0 else 1) = _
            congr 1
            by_cases c : mx <<< more % my = 0
            · rw [if_pos c, c]; rfl
            · rw [if_neg c, bne_iff_ne.2 c]; rfl
          rw [e1]
          apply fnear_eq
          have hle2 : ey + more + 1 ≤ ex + (4096 + lam) := hle
          show (f.leastPlace + (ex : Int) - (f.leastPlace + (ey : Int)) - (more : Int) - 1) = f.leastPlace + ((ex + (4096 + lam) - (ey + more + 1) : Nat) : Int) - ((4096 : Nat) : Int)
          omega
        · rfl
end
end Go.Proofs.Ytkldgcgijkfpaaa.Quick

namespace Go.Proofs.Ytkldgcgijkfpaaa.Quick
open Ieee
open Go.Proofs.Ytkldgcgijkfpaaa.Rnd

/-- The whole root. -/
def newt (n : Nat) : Nat → Nat → Nat
  | 0, x => x
  | k + 1, x => fo (Nat.div (Nat.add x (Nat.div n x)) 2) fun y => newt n k y
def isRoot (n w : Nat) : Bool := and (Nat.ble (Nat.mul w w) n) (Nat.ble (Nat.succ n) (Nat.mul (Nat.succ w) (Nat.succ w)))
def isq (n lg : Nat) : Nat :=
  fo (newt n 7 (Nat.shiftLeft 1 (Nat.succ (Nat.div lg 2)))) fun w => cond (isRoot n w) w (cond (isRoot n (Nat.sub w 1)) (Nat.sub w 1) (Datum.rootFrom n (Nat.succ (Nat.div lg 2)) 0))
theorem sq_lt {a b : Nat} (h : a * a < b * b) : a < b := by
  rcases Nat.lt_or_ge a b with c | c
  · exact c
  · have := Nat.mul_le_mul c c
    omega
theorem rootFrom_spec (n : Nat) : ∀ (todo root : Nat), root * root ≤ n → n < (root + 2 ^ todo) * (root + 2 ^ todo) → Datum.rootFrom n todo root * Datum.rootFrom n todo root ≤ n ∧ n < (Datum.rootFrom n todo root + 1) * (Datum.rootFrom n todo root + 1)
  | 0, root, h1, h2 => ⟨h1, h2⟩
  | todo + 1, root, h1, h2 => by
    unfold Datum.rootFrom
    simp only [Nat.one_shiftLeft]
    have hp : 2 ^ (todo + 1) = 2 ^ todo + 2 ^ todo := by rw [Nat.pow_succ]; omega
    rw [hp, ← Nat.add_assoc] at h2
    by_cases c : (root + 2 ^ todo) * (root + 2 ^ todo) ≤ n
    · rw [if_pos c]
      exact rootFrom_spec n todo _ c h2
    · rw [if_neg c]
      exact rootFrom_spec n todo _ h1 (by omega)
theorem root_uniq {n a b : Nat} (h1 : a * a ≤ n) (h2 : n < (a + 1) * (a + 1)) (h3 : b * b ≤ n) (h4 : n < (b + 1) * (b + 1)) : a = b := by
  have := sq_lt (Nat.lt_of_le_of_lt h1 h4)
  have := sq_lt (Nat.lt_of_le_of_lt h3 h2)
  omega
theorem isRoot_true {n w : Nat} (h : isRoot n w = true) : w * w ≤ n ∧ n < (w + 1) * (w + 1) := by
  unfold isRoot at h
  rw [Bool.and_eq_true] at h
  exact ⟨Nat.le_of_ble_eq_true h.1, Nat.le_of_ble_eq_true h.2⟩
theorem isq_eq (n : Nat) : isq n n.log2 = Datum.rootFrom n (n.log2 / 2 + 1) 0 := by
  have hs := rootFrom_spec n (n.log2 / 2 + 1) 0 (by omega) (by
    rw [Nat.zero_add, ← Nat.pow_add]
    exact Nat.lt_of_lt_of_le Nat.lt_log2_self (Nat.pow_le_pow_right (by omega) (by omega)))
  unfold isq
  rw [fo_eq]
  cases c : isRoot n (newt n 7 (Nat.shiftLeft 1 (Nat.succ (Nat.div n.log2 2)))) with
  | true =>
    have h := isRoot_true c
    exact root_uniq h.1 h.2 hs.1 hs.2
  | false =>
    show cond (isRoot n _) _ _ = _
    cases c2 : isRoot n (Nat.sub (newt n 7 (Nat.shiftLeft 1 (Nat.succ (Nat.div n.log2 2)))) 1) with
    | true =>
      have h := isRoot_true c2
      exact root_uniq h.1 h.2 hs.1 hs.2
    | false => rfl
/-- The square root. -/
def fsqrtP (fb B inf sw lam : Nat) (slow : Unit → Option Nat) (x : Nat) : Option Nat :=
  fo (Nat.mod x sw) fun rx => cond (Nat.ble inf rx) (slow ()) (cond (Nat.beq rx 0) (slow ()) (cond (Nat.beq (sgq sw x) 0)
   (fo (maq B rx) fun m => fo (exq B rx) fun e => fo (Nat.sub (Nat.mul 2 (Nat.add fb 2)) (lgG fb m)) fun more0 =>
    fo (Nat.sub (Nat.add e 8192) (Nat.add lam more0)) fun d => fo (Nat.add more0 (Nat.mod d 2)) fun more =>
    fo (Nat.shiftLeft m more) fun n => fo (isq n (lgG (Nat.mul 2 (Nat.add fb 2)) n)) fun w =>
    cond (Nat.ble (Nat.add lam more) 8000) (fo (Nat.sub (Nat.div (Nat.sub (Nat.add e 8192) (Nat.add lam more)) 2) 1) fun P =>
    some (fnear fb B inf sw (Nat.sub 4096 lam) (Nat.add fb 2) 0 (Nat.add (Nat.mul 2 w) (cond (Nat.beq (Nat.mul w w) n) 0 1)) P)) (slow ())) (slow ())))
theorem root_num (d : Nat) {m : Nat} (i : Int) (h : m ≠ 0) {more n w : Nat} (hm : 2 * d - m.log2 + ((i - (2 * d - m.log2 : Nat)) % 2).toNat = more) (hn : m <<< more = n) (hw : Datum.rootFrom n (n.log2 / 2 + 1) 0 = w) : (Datum.number false m i).root d =
    some (.number false (2 * w + (w * w != n).toNat) ((i - more) / 2 - 1)) := by
  unfold Datum.root
  simp only [if_neg h, Bool.false_eq_true, if_false, hm, hn, hw]
section
variable (f : Format)
theorem fsqrtP_eq {lam : Nat} (hl : f.leastPlace = -(lam : Int)) (hl2 : lam ≤ 4000) (x : Nat) : fsqrtP f.fractionBits f.binade f.infRung f.signWeight lam (fun _ => f.sqrt x) x = f.sqrt x := by
  unfold fsqrtP
  rw [fo_eq, cond_ble, cond_beq, cond_beq]
  show (if f.infRung ≤ x % f.signWeight then _ else if x % f.signWeight = 0 then _ else _) = _
  by_cases hx : f.infRung ≤ x % f.signWeight
  · rw [if_pos hx]
  · rw [if_neg hx]
    by_cases h0 : x % f.signWeight = 0
    · rw [if_pos h0]
    · rw [if_neg h0]
      split
      · rename_i hs
        rw [fo_eq, fo_eq, fo_eq, fo_eq, fo_eq, fo_eq, fo_eq, cond_ble, fo_eq]
        rw [sgq_eq] at hs
        have hs2 : (x / f.signWeight % 2 == 1) = false := by
          cases h : (x / f.signWeight % 2 == 1)
          · rfl
          · rw [h] at hs; cases hs
        have hB : 0 < f.binade := Nat.two_pow_pos _
        obtain ⟨m, hm⟩ : ∃ m, maq f.binade (x % f.signWeight) = m := ⟨_, rfl⟩
        have hm2 : maq f.binade (x.mod f.signWeight) = m := hm
        obtain ⟨e, he⟩ : ∃ e, exq f.binade (x % f.signWeight) = e := ⟨_, rfl⟩
        have he2 : exq f.binade (x.mod f.signWeight) = e := he
        have hm0 : m ≠ 0 := fun h => h0 (maq_zero hB (hm.trans h))
        rw [hm2, he2, lgG_eq]
        obtain ⟨a, ha⟩ : ∃ a, 2 * (f.fractionBits + 2) - m.log2 = a := ⟨_, rfl⟩
        have ha2 : (Nat.mul 2 (f.fractionBits.add 2)).sub m.log2 = a := ha
        rw [ha2]
        obtain ⟨b, hb⟩ : ∃ b, a + (e + 8192 - (lam + a)) % 2 = b := ⟨_, rfl⟩
        have hb2 : a.add (((e.add 8192).sub (lam.add a)).mod 2) = b := hb
        rw [hb2]
        split
        · rename_i hle
          have hle2 : lam + b ≤ 8000 := hle
          obtain ⟨n, hn⟩ : ∃ n, m <<< b = n := ⟨_, rfl⟩
          have hn2 : m.shiftLeft b = n := hn
          rw [hn2, lgG_eq, isq_eq]
          obtain ⟨w, hw⟩ : ∃ w, Datum.rootFrom n (n.log2 / 2 + 1) 0 = w := ⟨_, rfl⟩
          rw [hw]
          unfold Format.sqrt
          rw [read_num f (x := x) (by omega), hs2, hm, he]
          have hmore : 2 * (f.fractionBits + 2) - m.log2 + ((f.leastPlace + (e : Int) - (2 * (f.fractionBits + 2) - m.log2 : Nat)) % 2).toNat = b := by
            rw [ha]
            omega
          rw [root_num (f.fractionBits + 2) (f.leastPlace + (e : Int)) hm0 hmore hn hw]
          show some (fnear _ _ _ _ _ _ 0 _ _) = some (f.nearest false _ _)
          congr 1
          have e1 : Nat.add (Nat.mul 2 w) (bif (Nat.mul w w).beq n then 0 else 1) = 2 * w + (w * w != n).toNat := by
            rw [cond_beq]
            show 2 * w + (if w * w = n then 0 else 1) = _
            congr 1
            by_cases c : w * w = n
            · rw [if_pos c, c]; simp
            · rw [if_neg c, bne_iff_ne.2 c]; rfl
          rw [e1]
          have := fnear_eq f (4096 - lam) (f.fractionBits + 2) false (2 * w + (w * w != n).toNat) ((e + 8192 - (lam + b)) / 2 - 1) ((f.leastPlace + (e : Int) - (b : Int)) / 2 - 1) (by
            have hbp : a ≤ b := by omega
            omega)
          exact this
        · rfl
      · rfl
/-- How two words stand to each other. -/
def ordN (A C : Nat) : Option Ordering := cond (Nat.beq A C) (some .eq) (cond (Nat.ble A C) (some .lt) (some .gt))
def forderP (B inf sw : Nat) (slow : Unit → Option Ordering) (x y : Nat) : Option Ordering :=
  fo (Nat.mod x sw) fun rx => fo (Nat.mod y sw) fun ry =>
  cond (Nat.ble inf rx) (slow ()) (cond (Nat.ble inf ry) (slow ())
  (fo (exq B rx) fun ex => fo (exq B ry) fun ey => fo (nmin ex ey) fun P =>
   fo (Nat.shiftLeft (maq B rx) (Nat.sub ex P)) fun A => fo (Nat.shiftLeft (maq B ry) (Nat.sub ey P)) fun C =>
   cond (Nat.beq (sgq sw x) 0) (cond (Nat.beq (sgq sw y) 0) (ordN A C) (cond (Nat.beq (Nat.add A C) 0) (some .eq) (some .gt)))
    (cond (Nat.beq (sgq sw y) 0) (cond (Nat.beq (Nat.add A C) 0) (some .eq) (some .lt)) (ordN C A))))
theorem cmp_lt {a b : Int} (h : a < b) : compare a b = .lt := by
  show compareOfLessAndEq a b = _
  unfold compareOfLessAndEq
  rw [if_pos h]
theorem cmp_eq {a b : Int} (h : a = b) : compare a b = .eq := by
  show compareOfLessAndEq a b = _
  unfold compareOfLessAndEq
  rw [if_neg (by omega), if_pos h]
theorem cmp_gt {a b : Int} (h : b < a) : compare a b = .gt := by
  show compareOfLessAndEq a b = _
  unfold compareOfLessAndEq
  rw [if_neg (by omega), if_neg (by omega)]
theorem ordN_eq (A C : Nat) : ordN A C = some (compare (A : Int) (C : Int)) := by
  unfold ordN
  rw [cond_beq, cond_ble]
  by_cases h : A = C
  · rw [if_pos h, cmp_eq (by omega)]
  · rw [if_neg h]
    by_cases h2 : A ≤ C
    · rw [if_pos h2, cmp_lt (by omega)]
    · rw [if_neg h2, cmp_gt (by omega)]
theorem forderP_eq (x y : Nat) : forderP f.binade f.infRung f.signWeight (fun _ => f.order x y) x y = f.order x y := by
  unfold forderP
  rw [fo_eq, fo_eq, cond_ble, cond_ble]
  show (if f.infRung ≤ x % f.signWeight then _ else if f.infRung ≤ y % f.signWeight then _ else _) = _
  by_cases hx : f.infRung ≤ x % f.signWeight
  · rw [if_pos hx]
  · rw [if_neg hx]
    by_cases hy : f.infRung ≤ y % f.signWeight
    · rw [if_pos hy]
    · rw [if_neg hy, fo_eq, fo_eq, fo_eq, fo_eq, fo_eq]
      unfold Format.order
      rw [read_num f (x := x) (by omega), read_num f (x := y) (by omega), sgq_eq, sgq_eq, nmin_eq]
      obtain ⟨sx, esx⟩ : ∃ s, (x / f.signWeight % 2 == 1) = s := ⟨_, rfl⟩
      obtain ⟨sy, esy⟩ : ∃ s, (y / f.signWeight % 2 == 1) = s := ⟨_, rfl⟩
      obtain ⟨ex, hex⟩ : ∃ e, exq f.binade (x % f.signWeight) = e := ⟨_, rfl⟩
      obtain ⟨ey, hey⟩ : ∃ e, exq f.binade (y % f.signWeight) = e := ⟨_, rfl⟩
      have hex2 : exq f.binade (x.mod f.signWeight) = ex := hex
      have hey2 : exq f.binade (y.mod f.signWeight) = ey := hey
      rw [esx, esy, hex, hey, hex2, hey2]
      have b1 : min (f.leastPlace + (ex : Int)) (f.leastPlace + (ey : Int)) = f.leastPlace + ((min ex ey : Nat) : Int) := by omega
      have b2 : (f.leastPlace + (ex : Int) - (f.leastPlace + ((min ex ey : Nat) : Int))).toNat = ex - min ex ey := by omega
      have b3 : (f.leastPlace + (ey : Int) - (f.leastPlace + ((min ex ey : Nat) : Int))).toNat = ey - min ex ey := by omega
      unfold Datum.order
      simp only [b1, b2, b3]
      rw [signed_shift sx (maq f.binade (x % f.signWeight)), signed_shift sy (maq f.binade (y % f.signWeight)), signed_eq, signed_eq]
      obtain ⟨A, hA⟩ : ∃ A, (maq f.binade (x % f.signWeight)) <<< (ex - min ex ey) = A := ⟨_, rfl⟩
      obtain ⟨C, hC⟩ : ∃ C, (maq f.binade (y % f.signWeight)) <<< (ey - min ex ey) = C := ⟨_, rfl⟩
      have hA2 : (maq f.binade (x.mod f.signWeight)).shiftLeft (ex.sub (min ex ey)) = A := hA
      have hC2 : (maq f.binade (y.mod f.signWeight)).shiftLeft (ey.sub (min ex ey)) = C := hC
      rw [hA, hC, hA2, hC2]
      have hz : Nat.beq (A.add C) 0 = decide (A + C = 0) := by
        show Nat.beq (A + C) 0 = _
        cases h : Nat.beq (A + C) 0
        · rw [decide_eq_false]; intro hc; rw [hc] at h; cases h
        · rw [decide_eq_true]; exact Nat.eq_of_beq_eq_true h
      rw [hz]
      cases sx <;> cases sy
      · exact ordN_eq A C
      · show cond (decide (A + C = 0)) _ _ = some (compare (A : Int) (-(C : Int)))
        by_cases h : A + C = 0
        · rw [decide_eq_true h, cmp_eq (by omega)]; rfl
        · rw [decide_eq_false h, cmp_gt (by omega)]; rfl
      · show cond (decide (A + C = 0)) _ _ = some (compare (-(A : Int)) (C : Int))
        by_cases h : A + C = 0
        · rw [decide_eq_true h, cmp_eq (by omega)]; rfl
        · rw [decide_eq_false h, cmp_lt (by omega)]; rfl
      · show ordN C A = some (compare (-(A : Int)) (-(C : Int)))
        rw [ordN_eq]
        congr 1
        rcases Int.lt_trichotomy (A : Int) C with h | h | h
        · rw [cmp_gt h, cmp_gt (by omega)]
        · rw [cmp_eq h.symm, cmp_eq (by omega)]
        · rw [cmp_lt h, cmp_lt (by omega)]
end
end Go.Proofs.Ytkldgcgijkfpaaa.Quick

namespace Go.Proofs.Ytkldgcgijkfpaaa.Quick
open Ieee
open Go.Proofs.Ytkldgcgijkfpaaa.Rnd

/-- The word of n times two to the power of E over the least place, whose logarithm is l. -/
def fin (fb B sw s n l E : Nat) : Nat :=
  cond (Nat.ble fb l) (Nat.add (Nat.mul s sw) (Nat.add (Nat.mul (Nat.add E (Nat.sub l fb)) B) (rne n (Nat.sub l fb))))
   (Nat.add (Nat.mul s sw) (Nat.add (Nat.mul (Nat.sub E (Nat.sub fb l)) B) (Nat.shiftLeft n (Nat.sub fb l))))
section
variable (f : Format)
theorem cutE_top {n d k : Nat} (h : n < 2 ^ (k + d)) : cutE n d ≤ 2 ^ k := by
  refine Nat.le_trans (cutE_le n d) ?_
  have : n / 2 ^ d < 2 ^ k := by
    rw [Nat.div_lt_iff_lt_mul (Nat.two_pow_pos d), ← Nat.pow_add]
    exact h
  omega
theorem fin_eq (s : Bool) {n l E : Nat} (h0 : n ≠ 0) (hl : n.log2 = l) (h1 : E + l + 3 ≤ f.fractionBits + 2 ^ f.exponentBits) (h2 : f.fractionBits ≤ l + E) :
    fin f.fractionBits f.binade f.signWeight s.toNat n l E = f.nearest s n (f.leastPlace + E) := by
  rw [nearest_rung, word_toNat]
  have hn : n < 2 ^ (l + 1) := by rw [← hl]; exact Nat.lt_log2_self
  have hB : f.binade = 2 ^ f.fractionBits := rfl
  have hinf : ∀ k m : Nat, k + 3 ≤ 2 ^ f.exponentBits → m ≤ 2 * f.binade → min (k * f.binade + m) f.infRung = k * f.binade + m := by
    intro k m hk hm
    apply Nat.min_eq_left
    unfold Format.infRung
    have : (k + 2) * f.binade ≤ (2 ^ f.exponentBits - 1) * f.binade := Nat.mul_le_mul_right _ (by omega)
    rw [Nat.add_mul] at this
    omega
  unfold fin rungP keptP
  rw [cond_ble, if_neg h0]
  by_cases c : f.fractionBits ≤ l
  · rw [if_pos c]
    have eL : lastP f n (f.leastPlace + E) = f.leastPlace + (E + (l - f.fractionBits) : Nat) := by
      unfold lastP
      rw [hl]
      omega
    rw [eL]
    have e1 : (f.leastPlace + ((E + (l - f.fractionBits) : Nat) : Int) - f.leastPlace).toNat = E + (l - f.fractionBits) := by omega
    have e2 : (f.leastPlace + (E : Int) - (f.leastPlace + ((E + (l - f.fractionBits) : Nat) : Int))).toNat = 0 := by omega
    have e3 : (f.leastPlace + ((E + (l - f.fractionBits) : Nat) : Int) - (f.leastPlace + (E : Int))).toNat = l - f.fractionBits := by omega
    rw [e1, e2, e3, Nat.shiftLeft_zero, rne_eq, hinf]
    · rfl
    · omega
    · have : cutE n (l - f.fractionBits) ≤ 2 ^ (f.fractionBits + 1) := cutE_top (by rw [show f.fractionBits + 1 + (l - f.fractionBits) = l + 1 by omega]; exact hn)
      rw [hB]
      rw [Nat.pow_succ] at this
      omega
  · rw [if_neg c]
    have eL : lastP f n (f.leastPlace + E) = f.leastPlace + (E - (f.fractionBits - l) : Nat) := by
      unfold lastP
      rw [hl]
      omega
    rw [eL]
    have e1 : (f.leastPlace + ((E - (f.fractionBits - l) : Nat) : Int) - f.leastPlace).toNat = E - (f.fractionBits - l) := by omega
    have e2 : (f.leastPlace + (E : Int) - (f.leastPlace + ((E - (f.fractionBits - l) : Nat) : Int))).toNat = f.fractionBits - l := by omega
    have e3 : (f.leastPlace + ((E - (f.fractionBits - l) : Nat) : Int) - (f.leastPlace + (E : Int))).toNat = 0 := by omega
    rw [e1, e2, e3, cutE_zero, hinf]
    · rfl
    · omega
    · rw [Nat.shiftLeft_eq, hB]
      have h3 := Nat.mul_le_mul_right (2 ^ (f.fractionBits - l)) (Nat.le_of_lt hn)
      rw [← Nat.pow_add, show l + 1 + (f.fractionBits - l) = f.fractionBits + 1 by omega, Nat.pow_succ] at h3
      omega
/-- A normal magnitude of middling size. -/
theorem mid_read {x lo hi : Nat} (hlo : 1 ≤ lo) (hhi : hi + 2 ≤ 2 ^ f.exponentBits) (h1 : lo * f.binade ≤ x % f.signWeight) (h2 : x % f.signWeight ≤ hi * f.binade) :
    f.read x = .number (x / f.signWeight % 2 == 1) (f.binade + x % f.signWeight % f.binade) (f.leastPlace + (x % f.signWeight / f.binade - 1 : Nat)) ∧ lo ≤ x % f.signWeight / f.binade ∧ x % f.signWeight / f.binade ≤ hi := by
  have hB : 0 < f.binade := Nat.two_pow_pos _
  have hin : x % f.signWeight < f.infRung := by
    unfold Format.infRung
    have : (hi + 1) * f.binade ≤ (2 ^ f.exponentBits - 1) * f.binade := Nat.mul_le_mul_right _ (by omega)
    rw [Nat.add_mul] at this
    omega
  have hq : lo ≤ x % f.signWeight / f.binade := (Nat.le_div_iff_mul_le hB).2 h1
  refine ⟨?_, hq, ?_⟩
  · rw [read_num f hin]
    unfold maq exq
    rw [cond_ble, if_pos]
    · rfl
    · exact Nat.le_trans (Nat.le_mul_of_pos_left _ (by omega)) h1
  · have := Nat.div_le_div_right (c := f.binade) h2
    rw [Nat.mul_div_cancel _ hB] at this
    exact this
theorem mant_log (r : Nat) : (f.binade + r % f.binade).log2 = f.fractionBits := by
  have hB : 0 < f.binade := Nat.two_pow_pos _
  have := Nat.mod_lt r hB
  apply log2_uniq
  · exact Nat.le_add_right _ _
  · rw [Nat.pow_succ]
    have : f.binade = 2 ^ f.fractionBits := rfl
    omega
theorem log2_mul_bound {a b : Nat} (ha : a ≠ 0) (hb : b ≠ 0) : a.log2 + b.log2 ≤ (a * b).log2 ∧ (a * b).log2 ≤ a.log2 + b.log2 + 1 := by
  have a1 := Nat.log2_self_le ha
  have a2 : a < 2 ^ (a.log2 + 1) := Nat.lt_log2_self
  have b1 := Nat.log2_self_le hb
  have b2 : b < 2 ^ (b.log2 + 1) := Nat.lt_log2_self
  have hab : a * b ≠ 0 := Nat.mul_ne_zero ha hb
  constructor
  · rw [Nat.le_log2 hab, Nat.pow_add]
    exact Nat.mul_le_mul a1 b1
  · have : a * b < 2 ^ (a.log2 + b.log2 + 2) := by
      rw [show a.log2 + b.log2 + 2 = (a.log2 + 1) + (b.log2 + 1) by omega, Nat.pow_add]
      exact Nat.mul_lt_mul_of_lt_of_lt a2 b2
    have := (Nat.log2_lt hab).2 this
    omega
/-- Whether a magnitude is of middling size. -/
def midN (lo hi a : Nat) : Bool := cond (Nat.ble lo a) (Nat.ble a hi) false
theorem cond_mid {α : Type} (lo hi a : Nat) (x y : α) : cond (midN lo hi a) x y = if lo ≤ a then (if a ≤ hi then x else y) else y := by
  unfold midN
  rw [cond_ble]
  by_cases h : lo ≤ a
  · rw [if_pos h, if_pos h, cond_ble]
  · rw [if_neg h, if_neg h]; rfl
/-- The product. -/
def mulN3 (fb B sw lam x y a b n : Nat) : Option Nat :=
  some (fin fb B sw (Nat.mod (Nat.add (Nat.div x sw) (Nat.div y sw)) 2) n (lgG (Nat.add fb fb) n) (Nat.sub (Nat.add (Nat.div a B) (Nat.div b B)) (Nat.add lam 2)))
def mulN2 (fb B sw lam x y a b : Nat) : Option Nat :=
  fo (Nat.mul (Nat.add B (Nat.mod a B)) (Nat.add B (Nat.mod b B))) (mulN3 fb B sw lam x y a b)
def mulN1 (fb B sw lam lo hi : Nat) (slow : Unit → Option Nat) (x y a b : Nat) : Option Nat :=
  cond (midN lo hi a) (cond (midN lo hi b) (mulN2 fb B sw lam x y a b) (slow ())) (slow ())
def mulN0 (fb B sw lam lo hi : Nat) (slow : Unit → Option Nat) (x y a : Nat) : Option Nat := fo (Nat.mod y sw) (mulN1 fb B sw lam lo hi slow x y a)
def mulN (fb B sw lam lo hi : Nat) (slow : Unit → Option Nat) (x y : Nat) : Option Nat := fo (Nat.mod x sw) (mulN0 fb B sw lam lo hi slow x y)
theorem sgn_add (p q : Nat) : (p + q) % 2 = ((p % 2 == 1) ^^ (q % 2 == 1)).toNat := by
  rw [Nat.add_mod]
  rcases Nat.mod_two_eq_zero_or_one p with h | h <;> rcases Nat.mod_two_eq_zero_or_one q with k | k <;> rw [h, k] <;> rfl
theorem mulN_eq {lam lo hi L H : Nat} (hl : f.leastPlace = -(lam : Int)) (hL : L = lo * f.binade) (hH : H = hi * f.binade) (h1 : lam + 2 ≤ lo + lo) (h2 : hi + hi + f.fractionBits + 2 ≤ lam + 2 ^ f.exponentBits) (h3 : 1 ≤ lo) (h4 : hi + 2 ≤ 2 ^ f.exponentBits) (slow : Unit → Option Nat) (x y : Nat) (hslow : slow () = f.mul x y) :
    mulN f.fractionBits f.binade f.signWeight lam L H slow x y = f.mul x y := by
  unfold mulN mulN0 mulN1 mulN2 mulN3
  rw [fo_eq, fo_eq, cond_mid, cond_mid]
  show (if L ≤ x % f.signWeight then (if x % f.signWeight ≤ H then (if L ≤ y % f.signWeight then (if y % f.signWeight ≤ H then _ else _) else _) else _) else _) = _
  split
  · split
    · split
      · split
        · rename_i c1 c2 c3 c4
          subst hL hH
          obtain ⟨rx, x1, x2⟩ := mid_read f h3 h4 c1 c2
          obtain ⟨ry, y1, y2⟩ := mid_read f h3 h4 c3 c4
          rw [fo_eq, lgG_eq]
          unfold Format.mul
          rw [rx, ry]
          have hmx := mant_log f (x % f.signWeight)
          have hmy := mant_log f (y % f.signWeight)
          have hB : 0 < f.binade := Nat.two_pow_pos _
          obtain ⟨mx, ex⟩ : ∃ m, f.binade + x % f.signWeight % f.binade = m := ⟨_, rfl⟩
          obtain ⟨my, ey⟩ : ∃ m, f.binade + y % f.signWeight % f.binade = m := ⟨_, rfl⟩
          have ex2 : Nat.add f.binade (Nat.mod (Nat.mod x f.signWeight) f.binade) = mx := ex
          have ey2 : Nat.add f.binade (Nat.mod (Nat.mod y f.signWeight) f.binade) = my := ey
          rw [ex2, ey2, ex, ey]
          rw [ex] at hmx
          rw [ey] at hmy
          have hx0 : mx ≠ 0 := by omega
          have hy0 : my ≠ 0 := by omega
          have hlog := log2_mul_bound hx0 hy0
          rw [hmx, hmy] at hlog
          have hs : Nat.mod (Nat.add (Nat.div x f.signWeight) (Nat.div y f.signWeight)) 2 = ((x / f.signWeight % 2 == 1) ^^ (y / f.signWeight % 2 == 1)).toNat := by
            exact sgn_add _ _
          rw [hs]
          show some (fin _ _ _ _ (mx * my) (mx * my).log2 (x % f.signWeight / f.binade + y % f.signWeight / f.binade - (lam + 2))) = some (f.nearest _ (mx * my) _)
          congr 1
          have := fin_eq f ((x / f.signWeight % 2 == 1) ^^ (y / f.signWeight % 2 == 1)) (n := mx * my) (E := x % f.signWeight / f.binade + y % f.signWeight / f.binade - (lam + 2)) (Nat.mul_ne_zero hx0 hy0) rfl (by omega) (by omega)
          rw [this]
          congr 1
          omega
        · exact hslow
      · exact hslow
    · exact hslow
  · exact hslow
/-- The quotient. -/
def divN4 (fb B sw lam x y a b n : Nat) : Option Nat :=
  some (fin fb B sw (Nat.mod (Nat.add (Nat.div x sw) (Nat.div y sw)) 2) n (lgG (Nat.add fb 2) n) (Nat.sub (Nat.add (Nat.div a B) lam) (Nat.add (Nat.div b B) (Nat.add fb 3))))
def divN3 (fb B sw lam x y a b my dv : Nat) : Option Nat :=
  fo (Nat.add (Nat.mul 2 (Nat.div dv my)) (cond (Nat.beq (Nat.mod dv my) 0) 0 1)) (divN4 fb B sw lam x y a b)
def divN2 (fb B sw lam x y a b my : Nat) : Option Nat :=
  fo (Nat.shiftLeft (Nat.add B (Nat.mod a B)) (Nat.add fb 2)) (divN3 fb B sw lam x y a b my)
def divN1 (fb B sw lam lo hi : Nat) (slow : Unit → Option Nat) (x y a b : Nat) : Option Nat :=
  cond (midN lo hi a) (cond (midN lo hi b) (fo (Nat.add B (Nat.mod b B)) (divN2 fb B sw lam x y a b)) (slow ())) (slow ())
def divN0 (fb B sw lam lo hi : Nat) (slow : Unit → Option Nat) (x y a : Nat) : Option Nat := fo (Nat.mod y sw) (divN1 fb B sw lam lo hi slow x y a)
def divN (fb B sw lam lo hi : Nat) (slow : Unit → Option Nat) (x y : Nat) : Option Nat := fo (Nat.mod x sw) (divN0 fb B sw lam lo hi slow x y)
theorem divN_eq {lam lo hi L H : Nat} (hl : f.leastPlace = -(lam : Int)) (hL : L = lo * f.binade) (hH : H = hi * f.binade) (h1 : hi + (f.fractionBits + 3) ≤ lo + lam) (h2 : hi + lam + 10 ≤ lo + f.fractionBits + 2 ^ f.exponentBits) (h3 : 1 ≤ lo) (h4 : hi + 2 ≤ 2 ^ f.exponentBits) (slow : Unit → Option Nat) (x y : Nat) (hslow : slow () = f.div x y) :
    divN f.fractionBits f.binade f.signWeight lam L H slow x y = f.div x y := by
  unfold divN divN0 divN1 divN2 divN3 divN4
  rw [fo_eq, fo_eq, cond_mid, cond_mid]
  show (if L ≤ x % f.signWeight then (if x % f.signWeight ≤ H then (if L ≤ y % f.signWeight then (if y % f.signWeight ≤ H then _ else _) else _) else _) else _) = _
  split
  · split
    · split
      · split
        · rename_i c1 c2 c3 c4
          subst hL hH
          obtain ⟨rx, x1, x2⟩ := mid_read f h3 h4 c1 c2
          obtain ⟨ry, y1, y2⟩ := mid_read f h3 h4 c3 c4
          rw [fo_eq, fo_eq, fo_eq, lgG_eq]
          unfold Format.div
          rw [rx, ry]
          have hmx := mant_log f (x % f.signWeight)
          have hmy := mant_log f (y % f.signWeight)
          have hB : 0 < f.binade := Nat.two_pow_pos _
          obtain ⟨mx, ex⟩ : ∃ m, f.binade + x % f.signWeight % f.binade = m := ⟨_, rfl⟩
          obtain ⟨my, ey⟩ : ∃ m, f.binade + y % f.signWeight % f.binade = m := ⟨_, rfl⟩
          have ex2 : Nat.add f.binade (Nat.mod (Nat.mod x f.signWeight) f.binade) = mx := ex
          have ey2 : Nat.add f.binade (Nat.mod (Nat.mod y f.signWeight) f.binade) = my := ey
          rw [ex2, ey2, ex, ey]
          rw [ex] at hmx
          rw [ey] at hmy
          have hx0 : mx ≠ 0 := by omega
          have hy0 : my ≠ 0 := by omega
          rw [quotient_num _ _ _ _ _ _ hy0]
          have hmore : f.fractionBits + 2 + my.log2 - mx.log2 = f.fractionBits + 2 := by omega
          rw [hmore]
          obtain ⟨n, hn⟩ : ∃ n, 2 * (mx <<< (f.fractionBits + 2) / my) + (mx <<< (f.fractionBits + 2) % my != 0).toNat = n := ⟨_, rfl⟩
          have hn2 : Nat.add (Nat.mul 2 (Nat.div (Nat.shiftLeft mx (f.fractionBits.add 2)) my)) (bif (Nat.mod (Nat.shiftLeft mx (f.fractionBits.add 2)) my).beq 0 then 0 else 1) = n := by
            rw [← hn, cond_beq]
            show 2 * (mx <<< (f.fractionBits + 2) / my) + (if mx <<< (f.fractionBits + 2) % my = 0 then 0 else 1) = _
            congr 1
            by_cases c : mx <<< (f.fractionBits + 2) % my = 0
            · rw [if_pos c, c]; rfl
            · rw [if_neg c, bne_iff_ne.2 c]; rfl
          rw [hn, hn2]
          have hs : Nat.mod (Nat.add (Nat.div x f.signWeight) (Nat.div y f.signWeight)) 2 = ((x / f.signWeight % 2 == 1) ^^ (y / f.signWeight % 2 == 1)).toNat := by
            exact sgn_add _ _
          rw [hs]
          -- the quotient's size
          have q1 : 2 ^ (f.fractionBits + 1) ≤ mx <<< (f.fractionBits + 2) / my := by
            rw [Nat.shiftLeft_eq, Nat.le_div_iff_mul_le (by omega)]
            have b2 : my < 2 ^ (my.log2 + 1) := Nat.lt_log2_self
            have a1 := Nat.log2_self_le hx0
            rw [hmy] at b2
            rw [hmx] at a1
            calc 2 ^ (f.fractionBits + 1) * my ≤ 2 ^ (f.fractionBits + 1) * 2 ^ (f.fractionBits + 1) := Nat.mul_le_mul_left _ (Nat.le_of_lt b2)
              _ = 2 ^ f.fractionBits * 2 ^ (f.fractionBits + 2) := by rw [← Nat.pow_add, ← Nat.pow_add]; congr 1; omega
              _ ≤ mx * 2 ^ (f.fractionBits + 2) := Nat.mul_le_mul_right _ a1
          have q2 : mx <<< (f.fractionBits + 2) / my < 2 ^ (f.fractionBits + 3) := by
            rw [Nat.shiftLeft_eq, Nat.div_lt_iff_lt_mul (by omega)]
            have b1 := Nat.log2_self_le hy0
            have a2 : mx < 2 ^ (mx.log2 + 1) := Nat.lt_log2_self
            rw [hmy] at b1
            rw [hmx] at a2
            calc mx * 2 ^ (f.fractionBits + 2) < 2 ^ (f.fractionBits + 1) * 2 ^ (f.fractionBits + 2) := (Nat.mul_lt_mul_right (Nat.two_pow_pos _)).2 a2
              _ = 2 ^ (f.fractionBits + 3) * 2 ^ f.fractionBits := by rw [← Nat.pow_add, ← Nat.pow_add]; congr 1; omega
              _ ≤ 2 ^ (f.fractionBits + 3) * my := Nat.mul_le_mul_left _ b1
          have n1 : 2 ^ (f.fractionBits + 2) ≤ n := by rw [← hn, Nat.pow_succ]; omega
          have n2 : n < 2 ^ (f.fractionBits + 4) := by
            rw [← hn, Nat.pow_succ]
            have : ∀ b : Bool, b.toNat ≤ 1 := fun b => by cases b <;> decide
            have := this (mx <<< (f.fractionBits + 2) % my != 0)
            omega
          have n0 : n ≠ 0 := by have := Nat.two_pow_pos (f.fractionBits + 2); omega
          have l1 : f.fractionBits + 2 ≤ n.log2 := (Nat.le_log2 n0).2 n1
          have l2 : n.log2 < f.fractionBits + 4 := (Nat.log2_lt n0).2 n2
          show some (fin _ _ _ _ n n.log2 (x % f.signWeight / f.binade + lam - (y % f.signWeight / f.binade + (f.fractionBits + 3)))) = some (f.nearest _ n _)
          congr 1
          have := fin_eq f ((x / f.signWeight % 2 == 1) ^^ (y / f.signWeight % 2 == 1)) (n := n) (E := x % f.signWeight / f.binade + lam - (y % f.signWeight / f.binade + (f.fractionBits + 3))) n0 rfl (by omega) (by omega)
          rw [this]
          congr 1
          omega
        · exact hslow
      · exact hslow
    · exact hslow
  · exact hslow
/-- The sum or the difference of magnitudes m at places eb + d and eb, the first not below the second. -/
def addC1 (fb B sw s d eb n : Nat) : Option Nat := some (fin fb B sw s n (lgG (Nat.add fb d) n) eb)
def addC2 (fb B sw s d eb n : Nat) : Option Nat := cond (Nat.beq n 0) (some 0) (some (fin fb B sw s n (lgG (Nat.sub (Nat.add fb d) 1) n) eb))
def addCore (fb B sw s sub m k d eb : Nat) : Option Nat :=
  cond (Nat.beq sub 0) (fo (Nat.add (Nat.shiftLeft m d) k) (addC1 fb B sw s d eb)) (fo (Nat.sub (Nat.shiftLeft m d) k) (addC2 fb B sw s d eb))
def addN4 (fb B sw a b sx sy ea eb : Nat) : Option Nat :=
  cond (Nat.ble b a)
   (addCore fb B sw sx (Nat.mod (Nat.add sx sy) 2) (Nat.add B (Nat.mod a B)) (Nat.add B (Nat.mod b B)) (Nat.sub ea eb) (Nat.sub eb 1))
   (addCore fb B sw sy (Nat.mod (Nat.add sx sy) 2) (Nat.add B (Nat.mod b B)) (Nat.add B (Nat.mod a B)) (Nat.sub eb ea) (Nat.sub ea 1))
def addN3 (fb B sw a b sx sy ea : Nat) : Option Nat := fo (Nat.div b B) (addN4 fb B sw a b sx sy ea)
def addN2 (fb B sw a b sx sy : Nat) : Option Nat := fo (Nat.div a B) (addN3 fb B sw a b sx sy)
def addNs (fb B sw flip y a b sx : Nat) : Option Nat := fo (Nat.mod (Nat.add (Nat.div y sw) flip) 2) (addN2 fb B sw a b sx)
def addN1 (fb B sw lo hi : Nat) (slow : Unit → Option Nat) (flip x y a b : Nat) : Option Nat :=
  cond (midN lo hi a) (cond (midN lo hi b) (fo (Nat.mod (Nat.div x sw) 2) (addNs fb B sw flip y a b)) (slow ())) (slow ())
def addN0 (fb B sw lo hi : Nat) (slow : Unit → Option Nat) (flip x y a : Nat) : Option Nat := fo (Nat.mod y sw) (addN1 fb B sw lo hi slow flip x y a)
def addN (fb B sw lo hi : Nat) (slow : Unit → Option Nat) (flip x y : Nat) : Option Nat := fo (Nat.mod x sw) (addN0 fb B sw lo hi slow flip x y)
/-- What the core gives, as the nearest word of the sum. -/
theorem addCore_eq {s t : Bool} {m k d eb hi : Nat} (hm : m.log2 = f.fractionBits) (hk : k ≤ m <<< d) (hk0 : k ≠ 0) (h1 : eb + d ≤ hi) (h2 : hi + 4 ≤ 2 ^ f.exponentBits) (h3 : f.fractionBits ≤ eb) (hkl : k.log2 = f.fractionBits) :
    addCore f.fractionBits f.binade f.signWeight s.toNat ((s.toNat + t.toNat) % 2) m k d eb =
    some (f.nearest (if signed s (m <<< d) 0 + signed t k 0 = 0 then s && t else decide (signed s (m <<< d) 0 + signed t k 0 < 0)) (signed s (m <<< d) 0 + signed t k 0).natAbs (f.leastPlace + eb)) := by
  have hm0 : m ≠ 0 := by
    rintro rfl
    have : k = 0 := by simpa using hk
    exact hk0 this
  obtain ⟨A, hA⟩ : ∃ A, m <<< d = A := ⟨_, rfl⟩
  have hA2 : m.shiftLeft d = A := hA
  have hA0 : A ≠ 0 := by rw [← hA, Nat.shiftLeft_eq]; exact Nat.mul_ne_zero hm0 (by have := Nat.two_pow_pos d; omega)
  have hAl : A.log2 = f.fractionBits + d := by rw [← hA, Nat.shiftLeft_eq, log2_scale hm0, hm]
  have hAtop : A < 2 ^ (f.fractionBits + d + 1) := by rw [← hAl]; exact Nat.lt_log2_self
  unfold addCore addC1 addC2
  rw [hA2, hA, cond_beq, signed_eq, signed_eq]
  rw [hA] at hk
  by_cases hst : (s.toNat + t.toNat) % 2 = 0
  · rw [if_pos hst, fo_eq, lgG_eq]
    obtain rfl : s = t := by cases s <;> cases t <;> first | rfl | cases hst
    have hn0 : A + k ≠ 0 := by omega
    have hlog : (A + k).log2 < f.fractionBits + d + 2 := by
      rw [Nat.log2_lt hn0, Nat.pow_succ]
      omega
    have := fin_eq f s (n := A + k) (E := eb) hn0 rfl (by omega) (by omega)
    show some (fin _ _ _ s.toNat (A + k) (A + k).log2 eb) = _
    rw [this]
    congr 1
    cases s
    · simp only [Bool.false_eq_true, if_false]
      rw [if_neg (by omega), decide_eq_false (by omega)]
      congr 1
    · simp only [if_true]
      rw [if_neg (by omega), decide_eq_true (by omega)]
      congr 1
      omega
  · rw [if_neg hst, fo_eq, cond_beq]
    obtain rfl : t = !s := by cases s <;> cases t <;> first | rfl | exact absurd rfl hst
    have e2 : (if s = true then -(A : Int) else (A : Int)) + (if (!s) = true then -(k : Int) else (k : Int)) = if s = true then (k : Int) - A else (A : Int) - k := by cases s <;> simp <;> omega
    rw [e2]
    by_cases h0 : A.sub k = 0
    · rw [if_pos h0]
      have h0' : A - k = 0 := h0
      have e3 : (if s = true then (k : Int) - A else (A : Int) - k) = 0 := by cases s <;> simp <;> omega
      rw [e3]
      simp only [if_true, Int.natAbs_zero]
      rw [nearest_rung]
      have e1 : (s && !s) = false := by cases s <;> rfl
      rw [e1]
      unfold rungP
      rw [if_pos rfl]
      rfl
    · rw [if_neg h0, lgG_eq]
      have h0' : A - k ≠ 0 := h0
      have e3 : (if s = true then (k : Int) - A else (A : Int) - k) ≠ 0 := by cases s <;> simp <;> omega
      rw [if_neg e3]
      have hlog : (A - k).log2 < f.fractionBits + d + 1 := by
        rw [Nat.log2_lt h0']
        omega
      have := fin_eq f s (n := A - k) (E := eb) h0' rfl (by omega) (by omega)
      show some (fin _ _ _ s.toNat (A - k) (A - k).log2 eb) = _
      rw [this]
      congr 2
      · cases s <;> simp <;> omega
      · cases s <;> simp <;> omega
theorem addN_eq {lo hi L H : Nat} (hL : L = lo * f.binade) (hH : H = hi * f.binade) (h1 : f.fractionBits + 1 ≤ lo) (h4 : hi + 4 ≤ 2 ^ f.exponentBits) (b : Bool) (slow : Unit → Option Nat) (x y : Nat) (hslow : slow () = ((f.read x).sum (if b then (f.read y).opposite else f.read y)).map f.write) :
    addN f.fractionBits f.binade f.signWeight L H slow b.toNat x y = ((f.read x).sum (if b then (f.read y).opposite else f.read y)).map f.write := by
  unfold addN addN0 addN1 addNs addN2 addN3 addN4
  rw [fo_eq, fo_eq, cond_mid, cond_mid]
  show (if L ≤ x % f.signWeight then (if x % f.signWeight ≤ H then (if L ≤ y % f.signWeight then (if y % f.signWeight ≤ H then _ else _) else _) else _) else _) = _
  split
  · split
    · split
      · split
        · rename_i c1 c2 c3 c4
          subst hL hH
          obtain ⟨rx, x1, x2⟩ := mid_read f (by omega) (by omega) c1 c2
          obtain ⟨ry, y1, y2⟩ := mid_read f (by omega) (by omega) c3 c4
          rw [fo_eq, fo_eq, fo_eq, fo_eq, cond_ble]
          rw [rx, ry]
          have hmx := mant_log f (x % f.signWeight)
          have hmy := mant_log f (y % f.signWeight)
          have hB : 0 < f.binade := Nat.two_pow_pos _
          obtain ⟨sx, esx⟩ : ∃ s, (x / f.signWeight % 2 == 1) = s := ⟨_, rfl⟩
          obtain ⟨sy, esy⟩ : ∃ s, (y / f.signWeight % 2 == 1) = s := ⟨_, rfl⟩
          have hsx : Nat.mod (Nat.div x f.signWeight) 2 = sx.toNat := by rw [← esx]; exact sgq_eq _ _
          have hsy : Nat.mod (Nat.add (Nat.div y f.signWeight) b.toNat) 2 = (sy ^^ b).toNat := by
            rw [← esy]
            have := sgn_add (y / f.signWeight) b.toNat
            have hb : (b.toNat % 2 == 1) = b := by cases b <;> rfl
            rw [hb] at this
            exact this
          have e2 : (if b then (Datum.number sy (f.binade + y % f.signWeight % f.binade) (f.leastPlace + (y % f.signWeight / f.binade - 1 : Nat))).opposite else Datum.number sy (f.binade + y % f.signWeight % f.binade) (f.leastPlace + (y % f.signWeight / f.binade - 1 : Nat))) = Datum.number (sy ^^ b) (f.binade + y % f.signWeight % f.binade) (f.leastPlace + (y % f.signWeight / f.binade - 1 : Nat)) := by
            cases b <;> cases sy <;> rfl
          rw [esx, esy, e2, hsx, hsy]
          have hda : (x.mod f.signWeight).div f.binade = x % f.signWeight / f.binade := rfl
          have hdb : (y.mod f.signWeight).div f.binade = y % f.signWeight / f.binade := rfl
          have hma : f.binade.add ((x.mod f.signWeight).mod f.binade) = f.binade + x % f.signWeight % f.binade := rfl
          have hmb : f.binade.add ((y.mod f.signWeight).mod f.binade) = f.binade + y % f.signWeight % f.binade := rfl
          rw [hda, hdb, hma, hmb]
          have hle : x % f.signWeight ≤ y % f.signWeight → x % f.signWeight / f.binade ≤ y % f.signWeight / f.binade := fun h => Nat.div_le_div_right h
          have hle2 : y % f.signWeight ≤ x % f.signWeight → y % f.signWeight / f.binade ≤ x % f.signWeight / f.binade := fun h => Nat.div_le_div_right h
          have da := Nat.div_add_mod (x % f.signWeight) f.binade
          have db := Nat.div_add_mod (y % f.signWeight) f.binade
          have la := Nat.mod_lt (x % f.signWeight) hB
          have lb := Nat.mod_lt (y % f.signWeight) hB
          obtain ⟨ea, hea⟩ : ∃ e, x % f.signWeight / f.binade = e := ⟨_, rfl⟩
          obtain ⟨eb, heb⟩ : ∃ e, y % f.signWeight / f.binade = e := ⟨_, rfl⟩
          obtain ⟨ma, ha⟩ : ∃ m, f.binade + x % f.signWeight % f.binade = m := ⟨_, rfl⟩
          obtain ⟨mb, hb⟩ : ∃ m, f.binade + y % f.signWeight % f.binade = m := ⟨_, rfl⟩
          rw [hea] at x1 x2 hle hle2 da
          rw [heb] at y1 y2 hle hle2 db
          rw [ha] at hmx
          rw [hb] at hmy
          rw [hea, heb, ha, hb]
          unfold Datum.sum
          simp only
          have b1 : min (f.leastPlace + ((ea - 1 : Nat) : Int)) (f.leastPlace + ((eb - 1 : Nat) : Int)) = f.leastPlace + ((min ea eb - 1 : Nat) : Int) := by omega
          have b2 : (f.leastPlace + ((ea - 1 : Nat) : Int) - (f.leastPlace + ((min ea eb - 1 : Nat) : Int))).toNat = ea - min ea eb := by omega
          have b3 : (f.leastPlace + ((eb - 1 : Nat) : Int) - (f.leastPlace + ((min ea eb - 1 : Nat) : Int))).toNat = eb - min ea eb := by omega
          simp only [b1, b2, b3]
          rw [signed_shift sx ma, signed_shift (sy ^^ b) mb]
          show _ = some (f.nearest _ _ _)
          by_cases hab : y.mod f.signWeight ≤ x.mod f.signWeight
          · rw [if_pos hab]
            have hee := hle2 hab
            have m1 : min ea eb = eb := by omega
            rw [m1, Nat.sub_self, Nat.shiftLeft_zero]
            apply addCore_eq f (hi := hi) hmx ?_ (by omega) (by show eb - 1 + (ea - eb) ≤ hi; omega) h4 (by show f.fractionBits ≤ eb - 1; omega) hmy
            have hab' : y % f.signWeight ≤ x % f.signWeight := hab
            show mb ≤ ma <<< (ea - eb)
            rw [Nat.shiftLeft_eq]
            rcases Nat.eq_or_lt_of_le hee with e | e
            · rw [e, Nat.sub_self, Nat.pow_zero, Nat.mul_one]
              rw [e] at db
              omega
            · have : ma * 2 ^ 1 ≤ ma * 2 ^ (ea - eb) := Nat.mul_le_mul_left _ (Nat.pow_le_pow_right (by omega) (by omega))
              omega
          · rw [if_neg hab]
            have hab' : x % f.signWeight ≤ y % f.signWeight := by
              have : ¬ y % f.signWeight ≤ x % f.signWeight := hab
              omega
            have hee := hle hab'
            have m1 : min ea eb = ea := by omega
            rw [m1, Nat.sub_self, Nat.shiftLeft_zero]
            have hc := addCore_eq f (s := sy ^^ b) (t := sx) (m := mb) (k := ma) (d := eb - ea) (eb := ea - 1) (hi := hi) hmy (by
              rw [Nat.shiftLeft_eq]
              rcases Nat.eq_or_lt_of_le hee with e | e
              · rw [e, Nat.sub_self, Nat.pow_zero, Nat.mul_one]
                rw [e] at da
                omega
              · have : mb * 2 ^ 1 ≤ mb * 2 ^ (eb - ea) := Nat.mul_le_mul_left _ (Nat.pow_le_pow_right (by omega) (by omega))
                omega) (by omega) (by omega) h4 (by omega) hmx
            rw [Nat.add_comm, Int.add_comm (signed (sy ^^ b) _ _), Bool.and_comm] at hc
            exact hc
        · exact hslow
      · exact hslow
    · exact hslow
  · exact hslow
end
end Go.Proofs.Ytkldgcgijkfpaaa.Quick

namespace Go.Proofs.Ytkldgcgijkfpaaa.Quick
open Go
open Ieee (Format Datum)
open Go.Proofs.Ytkldgcgijkfpaaa.Rnd

/-- An operation. -/
def qbits (op : BinOp) (k : FloatKind) (x y : Nat) : Option Nat :=
  match k with
  | .f64 => match op with
    | .add => addN 52 4503599627370496 9223372036854775808 2431943798780067840 6755399441055744000 (fun _ => faddP 52 4503599627370496 9218868437227405312 9223372036854775808 (fun _ => FloatKind.f64.format.add x y) 0 x y) 0 x y
    | .sub => addN 52 4503599627370496 9223372036854775808 2431943798780067840 6755399441055744000 (fun _ => faddP 52 4503599627370496 9218868437227405312 9223372036854775808 (fun _ => FloatKind.f64.format.sub x y) 1 x y) 1 x y
    | .mul => mulN 52 4503599627370496 9223372036854775808 1074 2431943798780067840 6755399441055744000 (fun _ => fmulP 52 4503599627370496 9218868437227405312 9223372036854775808 1074 (fun _ => FloatKind.f64.format.mul x y) x y) x y
    | .quo => divN 52 4503599627370496 9223372036854775808 1074 2431943798780067840 6755399441055744000 (fun _ => fdivP 52 4503599627370496 9218868437227405312 9223372036854775808 1074 (fun _ => FloatKind.f64.format.div x y) x y) x y
    | _ => none
  | .f32 => match op with
    | .add => addN 23 8388608 2147483648 637534208 1593835520 (fun _ => faddP 23 8388608 2139095040 2147483648 (fun _ => FloatKind.f32.format.add x y) 0 x y) 0 x y
    | .sub => addN 23 8388608 2147483648 637534208 1593835520 (fun _ => faddP 23 8388608 2139095040 2147483648 (fun _ => FloatKind.f32.format.sub x y) 1 x y) 1 x y
    | .mul => mulN 23 8388608 2147483648 149 637534208 1593835520 (fun _ => fmulP 23 8388608 2139095040 2147483648 149 (fun _ => FloatKind.f32.format.mul x y) x y) x y
    | .quo => divN 23 8388608 2147483648 149 637534208 1593835520 (fun _ => fdivP 23 8388608 2139095040 2147483648 149 (fun _ => FloatKind.f32.format.div x y) x y) x y
    | _ => none
theorem kf64 : FloatKind.f64.format.fractionBits = 52 ∧ FloatKind.f64.format.binade = 4503599627370496 ∧ FloatKind.f64.format.infRung = 9218868437227405312 ∧ FloatKind.f64.format.signWeight = 9223372036854775808 ∧ FloatKind.f64.format.leastPlace = -((1074 : Nat) : Int) := by decide +kernel
theorem kf32 : FloatKind.f32.format.fractionBits = 23 ∧ FloatKind.f32.format.binade = 8388608 ∧ FloatKind.f32.format.infRung = 2139095040 ∧ FloatKind.f32.format.signWeight = 2147483648 ∧ FloatKind.f32.format.leastPlace = -((149 : Nat) : Int) := by decide +kernel
theorem qbits_eq (op : BinOp) (k : FloatKind) (x y : Nat) : qbits op k x y = floatBits op k x y := by
  cases k with
  | f32 =>
    obtain ⟨a, b, c, d, e⟩ := kf32
    have hx : FloatKind.f32.format.exponentBits = 8 := rfl
    cases op <;> try rfl
    · have h0 := faddP_eq FloatKind.f32.format x y
      have := addN_eq FloatKind.f32.format (lo := 76) (hi := 190) rfl rfl (by rw [a]; omega) (by rw [hx]; omega) false (fun _ => faddP FloatKind.f32.format.fractionBits FloatKind.f32.format.binade FloatKind.f32.format.infRung FloatKind.f32.format.signWeight (fun _ => FloatKind.f32.format.add x y) 0 x y) x y h0
      rw [a, b, c, d] at this
      exact this
    · have h0 := fsubP_eq FloatKind.f32.format x y
      have := addN_eq FloatKind.f32.format (lo := 76) (hi := 190) rfl rfl (by rw [a]; omega) (by rw [hx]; omega) true (fun _ => faddP FloatKind.f32.format.fractionBits FloatKind.f32.format.binade FloatKind.f32.format.infRung FloatKind.f32.format.signWeight (fun _ => FloatKind.f32.format.sub x y) 1 x y) x y h0
      rw [a, b, c, d] at this
      exact this
    · have h0 := fmulP_eq FloatKind.f32.format e x y
      have := mulN_eq FloatKind.f32.format (lo := 76) (hi := 190) e rfl rfl (by omega) (by rw [a, hx]; omega) (by omega) (by rw [hx]; omega) (fun _ => fmulP FloatKind.f32.format.fractionBits FloatKind.f32.format.binade FloatKind.f32.format.infRung FloatKind.f32.format.signWeight 149 (fun _ => FloatKind.f32.format.mul x y) x y) x y h0
      rw [a, b, c, d] at this
      exact this
    · have h0 := fdivP_eq FloatKind.f32.format e x y
      have := divN_eq FloatKind.f32.format (lo := 76) (hi := 190) e rfl rfl (by rw [a]; omega) (by rw [a, hx]; omega) (by omega) (by rw [hx]; omega) (fun _ => fdivP FloatKind.f32.format.fractionBits FloatKind.f32.format.binade FloatKind.f32.format.infRung FloatKind.f32.format.signWeight 149 (fun _ => FloatKind.f32.format.div x y) x y) x y h0
      rw [a, b, c, d] at this
      exact this
  | f64 =>
    obtain ⟨a, b, c, d, e⟩ := kf64
    have hx : FloatKind.f64.format.exponentBits = 11 := rfl
    cases op <;> try rfl
    · have h0 := faddP_eq FloatKind.f64.format x y
      have := addN_eq FloatKind.f64.format (lo := 540) (hi := 1500) rfl rfl (by rw [a]; omega) (by rw [hx]; omega) false (fun _ => faddP FloatKind.f64.format.fractionBits FloatKind.f64.format.binade FloatKind.f64.format.infRung FloatKind.f64.format.signWeight (fun _ => FloatKind.f64.format.add x y) 0 x y) x y h0
      rw [a, b, c, d] at this
      exact this
    · have h0 := fsubP_eq FloatKind.f64.format x y
      have := addN_eq FloatKind.f64.format (lo := 540) (hi := 1500) rfl rfl (by rw [a]; omega) (by rw [hx]; omega) true (fun _ => faddP FloatKind.f64.format.fractionBits FloatKind.f64.format.binade FloatKind.f64.format.infRung FloatKind.f64.format.signWeight (fun _ => FloatKind.f64.format.sub x y) 1 x y) x y h0
      rw [a, b, c, d] at this
      exact this
    · have h0 := fmulP_eq FloatKind.f64.format e x y
      have := mulN_eq FloatKind.f64.format (lo := 540) (hi := 1500) e rfl rfl (by omega) (by rw [a, hx]; omega) (by omega) (by rw [hx]; omega) (fun _ => fmulP FloatKind.f64.format.fractionBits FloatKind.f64.format.binade FloatKind.f64.format.infRung FloatKind.f64.format.signWeight 1074 (fun _ => FloatKind.f64.format.mul x y) x y) x y h0
      rw [a, b, c, d] at this
      exact this
    · have h0 := fdivP_eq FloatKind.f64.format e x y
      have := divN_eq FloatKind.f64.format (lo := 540) (hi := 1500) e rfl rfl (by rw [a]; omega) (by rw [a, hx]; omega) (by omega) (by rw [hx]; omega) (fun _ => fdivP FloatKind.f64.format.fractionBits FloatKind.f64.format.binade FloatKind.f64.format.infRung FloatKind.f64.format.signWeight 1074 (fun _ => FloatKind.f64.format.div x y) x y) x y h0
      rw [a, b, c, d] at this
      exact this
/-- How two floats stand to each other. -/
def qorder (k : FloatKind) (x y : Nat) : Option Ordering :=
  match k with
  | .f64 => forderP 4503599627370496 9218868437227405312 9223372036854775808 (fun _ => FloatKind.f64.format.order x y) x y
  | .f32 => forderP 8388608 2139095040 2147483648 (fun _ => FloatKind.f32.format.order x y) x y
theorem qorder_eq (k : FloatKind) (x y : Nat) : qorder k x y = k.format.order x y := by
  cases k with
  | f32 =>
    obtain ⟨a, b, c, d, e⟩ := kf32
    have := forderP_eq FloatKind.f32.format x y
    rw [b, c, d] at this
    exact this
  | f64 =>
    obtain ⟨a, b, c, d, e⟩ := kf64
    have := forderP_eq FloatKind.f64.format x y
    rw [b, c, d] at this
    exact this
/-- The square root of a double. -/
def qsqrt (x : Nat) : Option Nat := fsqrtP 52 4503599627370496 9218868437227405312 9223372036854775808 1074 (fun _ => FloatKind.f64.format.sqrt x) x
theorem qsqrt_eq (x : Nat) : qsqrt x = FloatKind.f64.format.sqrt x := by
  obtain ⟨a, b, c, d, e⟩ := kf64
  have := fsqrtP_eq FloatKind.f64.format e (by omega) x
  rw [a, b, c, d] at this
  exact this
/-- A float of one kind in the other. -/
def fconvP (fb B inf sw fb2 B2 inf2 sw2 a T : Nat) (slow : Unit → Option Nat) (x : Nat) : Option Nat :=
  fo (Nat.mod x sw) fun rx => cond (Nat.ble inf rx) (slow ())
   (fo (Nat.add (exq B rx) a) fun P => fo (maq B rx) fun m => fo (fnear fb2 B2 inf2 sw2 T fb (sgq sw x) m P) fun r =>
   cond (Nat.beq (Nat.mod r sw2) inf2) none (some r))
theorem isInf_read {g : Format} (hB : g.binade ≤ g.infRung) (w : Nat) : (g.read w).isInfinity = decide (w % g.signWeight = g.infRung) := by
  unfold Format.read
  simp only
  by_cases h1 : w % g.signWeight < g.binade
  · rw [if_pos h1, decide_eq_false (by omega)]; rfl
  · rw [if_neg h1]
    by_cases h2 : w % g.signWeight < g.infRung
    · rw [if_pos h2, decide_eq_false (by omega)]; rfl
    · rw [if_neg h2]
      by_cases h3 : w % g.signWeight = g.infRung
      · rw [if_pos h3, decide_eq_true h3]; rfl
      · rw [if_neg h3, decide_eq_false h3]; rfl
theorem fconvP_eq (j k : FloatKind) (hjk : j ≠ k) {a T : Nat} (hT : j.format.leastPlace + (a : Int) = k.format.leastPlace + T - T - T + a + (j.format.leastPlace - k.format.leastPlace + T)) (hT2 : j.format.leastPlace = k.format.leastPlace + a - T) (hB : k.format.binade ≤ k.format.infRung) (x : Nat) :
    fconvP j.format.fractionBits j.format.binade j.format.infRung j.format.signWeight k.format.fractionBits k.format.binade k.format.infRung k.format.signWeight a T (fun _ => floatToFloatBits j x k) x = floatToFloatBits j x k := by
  unfold fconvP
  rw [fo_eq, cond_ble]
  show (if j.format.infRung ≤ x % j.format.signWeight then _ else _) = _
  by_cases hx : j.format.infRung ≤ x % j.format.signWeight
  · rw [if_pos hx]
  · rw [if_neg hx, fo_eq, fo_eq, fo_eq, cond_beq]
    unfold floatToFloatBits
    rw [if_neg hjk]
    unfold FloatKind.decode FloatKind.encode
    rw [read_num j.format (x := x) (by omega)]
    simp only
    rw [isInf_read hB, sgq_eq, fnear_eq k.format T j.format.fractionBits _ _ _ (j.format.leastPlace + (exq j.format.binade (x % j.format.signWeight) : Nat)) (by
      show _ = k.format.leastPlace + ((exq j.format.binade (x.mod j.format.signWeight) + a : Nat) : Int) - T
      have : exq j.format.binade (x.mod j.format.signWeight) = exq j.format.binade (x % j.format.signWeight) := rfl
      rw [this]
      omega)]
    show (if k.format.nearest _ _ _ % k.format.signWeight = k.format.infRung then none else some (k.format.nearest _ _ _)) = _
    have hmod : x.mod j.format.signWeight = x % j.format.signWeight := rfl
    rw [hmod]
    by_cases c : k.format.nearest (x / j.format.signWeight % 2 == 1) (maq j.format.binade (x % j.format.signWeight)) (j.format.leastPlace + (exq j.format.binade (x % j.format.signWeight) : Nat)) % k.format.signWeight = k.format.infRung
    · rw [if_pos c, if_pos]
      exact decide_eq_true c
    · rw [if_neg c, if_neg]
      · rfl
      · intro h
        exact c (of_decide_eq_true h)
def qnarrow (x : Nat) : Option Nat := fconvP 52 4503599627370496 9218868437227405312 9223372036854775808 23 8388608 2139095040 2147483648 0 925 (fun _ => floatToFloatBits .f64 x .f32) x
def qwide (x : Nat) : Option Nat := fconvP 23 8388608 2139095040 2147483648 52 4503599627370496 9218868437227405312 9223372036854775808 925 0 (fun _ => floatToFloatBits .f32 x .f64) x
theorem qnarrow_eq (x : Nat) : qnarrow x = floatToFloatBits .f64 x .f32 := by
  obtain ⟨a, b, c, d, e⟩ := kf64
  obtain ⟨a', b', c', d', e'⟩ := kf32
  have := fconvP_eq .f64 .f32 (by decide) (a := 0) (T := 925) (by rw [e, e']; omega) (by rw [e, e']; omega) (by rw [b', c']; omega) x
  rw [a, b, c, d, a', b', c', d'] at this
  exact this
theorem qwide_eq (x : Nat) : qwide x = floatToFloatBits .f32 x .f64 := by
  obtain ⟨a, b, c, d, e⟩ := kf64
  obtain ⟨a', b', c', d', e'⟩ := kf32
  have := fconvP_eq .f32 .f64 (by decide) (a := 925) (T := 0) (by rw [e, e']; omega) (by rw [e, e']; omega) (by rw [b, c]; omega) x
  rw [a, b, c, d, a', b', c', d'] at this
  exact this
/-- A whole number as a double. -/
def qint (n : Int) : Nat := fnear 52 4503599627370496 9218868437227405312 9223372036854775808 0 0 (match n with | .ofNat _ => 0 | .negSucc _ => 1) (match n with | .ofNat m => m | .negSucc m => Nat.succ m) 1074
theorem qint_eq (n : Int) : qint n = floatOfInt .f64 n := by
  obtain ⟨a, b, c, d, e⟩ := kf64
  unfold qint floatOfInt FloatKind.nearest FloatKind.encode
  rw [← a, ← b, ← c, ← d]
  have hp : (0 : Int) = FloatKind.f64.format.leastPlace + ((1074 : Nat) : Int) - ((0 : Nat) : Int) := by rw [e]; omega
  cases n with
  | ofNat m =>
    have := fnear_eq FloatKind.f64.format 0 0 false m 1074 0 hp
    exact this
  | negSucc m =>
    have := fnear_eq FloatKind.f64.format 0 0 true (m + 1) 1074 0 hp
    show _ = FloatKind.f64.format.nearest (decide (Int.negSucc m < 0)) (m + 1) 0
    rw [decide_eq_true (Int.negSucc_lt_zero m)]
    exact this
/-- A double cut to a whole number, towards zero. -/
def ftoP (B inf sw lam : Nat) (slow : Unit → Option Int) (x : Nat) : Option Int :=
  fo (Nat.mod x sw) fun rx => cond (Nat.ble inf rx) (slow ())
  (fo (exq B rx) fun e => fo (cond (Nat.ble lam e) (Nat.shiftLeft (maq B rx) (Nat.sub e lam)) (Nat.shiftRight (maq B rx) (Nat.sub lam e))) fun v =>
   cond (Nat.ble 9223372036854775807 v) (slow ()) (cond (Nat.beq (sgq sw x) 0) (some (Int.ofNat v)) (some (Int.neg (Int.ofNat v)))))
theorem cut_zero (s : Bool) (n d : Nat) : Ieee.Toward.zero.cut s n d = n / 2 ^ d := by
  unfold Ieee.Toward.cut
  simp only [Bool.toNat_false, Nat.add_zero, Nat.one_shiftLeft]
  rcases Nat.lt_or_ge (n.log2 + 2) d with h | h
  · rw [Nat.min_eq_right (by omega)]
    have h0 : n < 2 ^ (n.log2 + 1) := Nat.lt_log2_self
    have h1 : 2 ^ (n.log2 + 1) ≤ 2 ^ (n.log2 + 2) := Nat.pow_le_pow_right (by omega) (by omega)
    have h2 : 2 ^ (n.log2 + 2) ≤ 2 ^ d := Nat.pow_le_pow_right (by omega) (by omega)
    rw [Nat.div_eq_of_lt (by omega), Nat.div_eq_of_lt (by omega)]
  · rw [Nat.min_eq_left h]
def qtoInt (x : Nat) : Option Int := ftoP 4503599627370496 9218868437227405312 9223372036854775808 1074 (fun _ => floatToIntVal .f64 x .i64) x
theorem qtoInt_eq (x : Nat) : qtoInt x = floatToIntVal .f64 x .i64 := by
  obtain ⟨a, b, c, d, e⟩ := kf64
  unfold qtoInt ftoP
  rw [← b, ← c, ← d, fo_eq, cond_ble]
  show (if FloatKind.f64.format.infRung ≤ x % FloatKind.f64.format.signWeight then _ else _) = _
  by_cases hx : FloatKind.f64.format.infRung ≤ x % FloatKind.f64.format.signWeight
  · rw [if_pos hx]
  · rw [if_neg hx, fo_eq, fo_eq, cond_ble, cond_ble]
    obtain ⟨ex, hex⟩ : ∃ e, exq FloatKind.f64.format.binade (x % FloatKind.f64.format.signWeight) = e := ⟨_, rfl⟩
    have hex2 : exq FloatKind.f64.format.binade (x.mod FloatKind.f64.format.signWeight) = ex := hex
    obtain ⟨m, hm⟩ : ∃ m, maq FloatKind.f64.format.binade (x % FloatKind.f64.format.signWeight) = m := ⟨_, rfl⟩
    have hm2 : maq FloatKind.f64.format.binade (x.mod FloatKind.f64.format.signWeight) = m := hm
    rw [hex2, hm2]
    obtain ⟨v, hve⟩ : ∃ v, (if 1074 ≤ ex then m.shiftLeft (ex.sub 1074) else m.shiftRight (Nat.sub 1074 ex) : Nat) = v := ⟨_, rfl⟩
    rw [hve]
    by_cases hv : 9223372036854775807 ≤ v
    · rw [if_pos hv]
    · rw [if_neg hv]
      have hlow : ((IntKind.i64).min : Int) = -9223372036854775808 := by decide +kernel
      have hhigh : ((IntKind.i64).max : Int) = 9223372036854775807 := by decide +kernel
      unfold floatToIntVal FloatKind.decode
      rw [read_num FloatKind.f64.format (x := x) (by omega), e]
      rw [hex, hm, sgq_eq]
      obtain ⟨s, hs⟩ : ∃ s, (x / FloatKind.f64.format.signWeight % 2 == 1) = s := ⟨_, rfl⟩
      rw [hs]
      have key : (Datum.number s m (-((1074 : Nat) : Int) + (ex : Int))).toInt .zero = some (if s then -((if 1074 ≤ ex then m.shiftLeft (ex.sub 1074) else m.shiftRight (Nat.sub 1074 ex) : Nat) : Int) else ((if 1074 ≤ ex then m.shiftLeft (ex.sub 1074) else m.shiftRight (Nat.sub 1074 ex) : Nat) : Int)) := by
        unfold Datum.toInt Datum.integral
        simp only [cut_zero]
        rw [signed_eq]
        by_cases h : 1074 ≤ ex
        · have e1 : (-((1074 : Nat) : Int) + (ex : Int)).toNat = ex - 1074 := by omega
          have e2 : (-(-((1074 : Nat) : Int) + (ex : Int))).toNat = 0 := by omega
          rw [if_pos h, e1, e2, Nat.pow_zero, Nat.div_one]
          rfl
        · have e1 : (-((1074 : Nat) : Int) + (ex : Int)).toNat = 0 := by omega
          have e2 : (-(-((1074 : Nat) : Int) + (ex : Int))).toNat = 1074 - ex := by omega
          rw [if_neg h, e1, e2, Nat.shiftLeft_zero]
          have : m / 2 ^ (1074 - ex) = m.shiftRight (Nat.sub 1074 ex) := (Nat.shiftRight_eq_div_pow _ _).symm
          rw [this]
      rw [key]
      rw [hve]
      rw [hlow, hhigh]
      cases s
      · simp only [Bool.false_eq_true, if_false]
        rw [if_pos (by omega)]
        rfl
      · simp only [if_true]
        rw [if_pos (by omega)]
        rfl
/-- The greatest whole number not above, as a double. -/
def floorP (x : Nat) : Option Nat := match FloatKind.f64.decode x with | .nan _ _ => none | d => some (FloatKind.f64.encode (d.integral .down))
def ffloP (fb B inf sw lam : Nat) (slow : Unit → Option Nat) (x : Nat) : Option Nat :=
  fo (Nat.mod x sw) fun rx => cond (Nat.ble inf rx) (slow ())
  (fo (exq B rx) fun e => fo (maq B rx) fun m => fo (sgq sw x) fun s =>
   cond (Nat.ble lam e) (slow ())
    (fo (Nat.sub lam e) fun d => fo (Nat.shiftLeft 1 d) fun g => fo (Nat.add (Nat.div m g) (cond (Nat.beq s 0) 0 (cond (Nat.beq (Nat.mod m g) 0) 0 1))) fun v =>
     some (fnear fb B inf sw 0 0 s v lam)))
theorem cut_down (s : Bool) (n d : Nat) : Ieee.Toward.down.cut s n d = n / 2 ^ d + (s && n % 2 ^ d != 0).toNat := by
  unfold Ieee.Toward.cut
  simp only [Nat.one_shiftLeft]
  rcases Nat.lt_or_ge (n.log2 + 2) d with h | h
  · rw [Nat.min_eq_right (by omega)]
    have h0 : n < 2 ^ (n.log2 + 1) := Nat.lt_log2_self
    have h1 : 2 ^ (n.log2 + 1) ≤ 2 ^ (n.log2 + 2) := Nat.pow_le_pow_right (by omega) (by omega)
    have h2 : 2 ^ (n.log2 + 2) ≤ 2 ^ d := Nat.pow_le_pow_right (by omega) (by omega)
    rw [Nat.div_eq_of_lt (by omega), Nat.div_eq_of_lt (by omega), Nat.mod_eq_of_lt (by omega), Nat.mod_eq_of_lt (by omega)]
  · rw [Nat.min_eq_left h]
def qfloor (x : Nat) : Option Nat := ffloP 52 4503599627370496 9218868437227405312 9223372036854775808 1074 (fun _ => floorP x) x
theorem qfloor_eq (x : Nat) : qfloor x = floorP x := by
  obtain ⟨a, b, c, d, e⟩ := kf64
  unfold qfloor ffloP
  rw [← a, ← b, ← c, ← d, fo_eq, cond_ble]
  show (if FloatKind.f64.format.infRung ≤ x % FloatKind.f64.format.signWeight then _ else _) = _
  by_cases hx : FloatKind.f64.format.infRung ≤ x % FloatKind.f64.format.signWeight
  · rw [if_pos hx]
  · rw [if_neg hx, fo_eq, fo_eq, fo_eq, cond_ble, fo_eq, fo_eq, fo_eq]
    obtain ⟨ex, hex⟩ : ∃ e, exq FloatKind.f64.format.binade (x % FloatKind.f64.format.signWeight) = e := ⟨_, rfl⟩
    have hex2 : exq FloatKind.f64.format.binade (x.mod FloatKind.f64.format.signWeight) = ex := hex
    obtain ⟨m, hm⟩ : ∃ m, maq FloatKind.f64.format.binade (x % FloatKind.f64.format.signWeight) = m := ⟨_, rfl⟩
    have hm2 : maq FloatKind.f64.format.binade (x.mod FloatKind.f64.format.signWeight) = m := hm
    rw [hex2, hm2]
    by_cases hv : 1074 ≤ ex
    · rw [if_pos hv]
    · rw [if_neg hv]
      unfold floorP FloatKind.decode FloatKind.encode
      rw [read_num FloatKind.f64.format (x := x) (by omega), e, hex, hm, sgq_eq]
      obtain ⟨s, hs⟩ : ∃ s, (x / FloatKind.f64.format.signWeight % 2 == 1) = s := ⟨_, rfl⟩
      rw [hs]
      unfold Datum.integral
      simp only [cut_down]
      have e1 : (-((1074 : Nat) : Int) + (ex : Int)).toNat = 0 := by omega
      have e2 : (-(-((1074 : Nat) : Int) + (ex : Int))).toNat = 1074 - ex := by omega
      rw [e1, e2, Nat.shiftLeft_zero]
      have e3 : Nat.add (m.div (Nat.shiftLeft 1 (Nat.sub 1074 ex))) (bif s.toNat.beq 0 then 0 else bif (m.mod (Nat.shiftLeft 1 (Nat.sub 1074 ex))).beq 0 then 0 else 1) = m / 2 ^ (1074 - ex) + (s && m % 2 ^ (1074 - ex) != 0).toNat := by
        have e4 : Nat.shiftLeft 1 (Nat.sub 1074 ex) = 2 ^ (1074 - ex) := Nat.one_shiftLeft _
        rw [e4, cond_beq, cond_beq]
        show m / 2 ^ (1074 - ex) + (if s.toNat = 0 then 0 else if m % 2 ^ (1074 - ex) = 0 then 0 else 1) = _
        congr 1
        cases s
        · rfl
        · rw [if_neg (by decide)]
          by_cases c : m % 2 ^ (1074 - ex) = 0
          · rw [if_pos c, c]; rfl
          · rw [if_neg c, bne_iff_ne.2 c]; rfl
      rw [e3]
      congr 1
      exact fnear_eq FloatKind.f64.format 0 0 s _ 1074 0 (by rw [e]; omega)
end Go.Proofs.Ytkldgcgijkfpaaa.Quick
