/- Plain law: quick forms of the operations on floats, equal to those of the model on all words; the kernel works them out without the model's logarithm. -/
import Derived.Test.YtkldgcgijkfpaaaRm
import Derived.Laws.FloatArith
namespace Go.Proofs.Ytkldgcgijkfpaaa.Quick
open Ieee
open Go.Proofs.Ytkldgcgijkfpaaa.Rnd

/-- Forces a number before it goes on. -/
def fo {α : Type} (n : Nat) (k : Nat → α) : α := Nat.rec (k 0) (fun m _ => k (Nat.succ m)) n
theorem fo_eq {α : Type} (n : Nat) (k : Nat → α) : fo n k = k n := by cases n <;> rfl
theorem cond_ble {α : Type} (a b : Nat) (x y : α) : cond (Nat.ble a b) x y = if a ≤ b then x else y := by
  by_cases h : a ≤ b
  · rw [if_pos h, Nat.ble_eq_true_of_le h]; rfl
  · rw [if_neg h]
    have : Nat.ble a b = false := by
      cases e : Nat.ble a b
      · rfl
      · exact absurd (Nat.le_of_ble_eq_true e) h
    rw [this]; rfl
theorem cond_beq {α : Type} (a b : Nat) (x y : α) : cond (Nat.beq a b) x y = if a = b then x else y := by
  by_cases h : a = b
  · rw [if_pos h, h, show Nat.beq b b = true from Nat.beq_refl b]; rfl
  · rw [if_neg h]
    have : Nat.beq a b = false := by
      cases e : Nat.beq a b
      · rfl
      · exact absurd (Nat.eq_of_beq_eq_true e) h
    rw [this]; rfl
/-- The logarithm by halving. -/
def lgL : List Nat → Nat → Nat
  | [], _ => 0
  | k :: ks, n => fo (Nat.shiftRight n k) fun m => cond (Nat.beq m 0) (lgL ks n) (Nat.add k (lgL ks m))
def lg (n : Nat) : Nat := cond (Nat.ble 340282366920938463463374607431768211456 n) (Nat.log2 n) (lgL [64, 32, 16, 8, 4, 2, 1] n)
theorem log2_uniq {n k : Nat} (h1 : 2 ^ k ≤ n) (h2 : n < 2 ^ (k + 1)) : n.log2 = k := by
  have hn : n ≠ 0 := by have := Nat.two_pow_pos k; omega
  exact (Nat.log2_eq_iff hn).2 ⟨h1, h2⟩
theorem log2_shift {n k : Nat} (h : n / 2 ^ k ≠ 0) : n.log2 = k + (n / 2 ^ k).log2 := by
  have h1 := Nat.log2_self_le h
  have h2 : n / 2 ^ k < 2 ^ ((n / 2 ^ k).log2 + 1) := Nat.lt_log2_self
  have hk := Nat.two_pow_pos k
  apply log2_uniq
  · rw [Nat.add_comm, Nat.pow_add]
    exact Nat.le_trans (Nat.mul_le_mul_right _ h1) (Nat.div_mul_le_self n _)
  · rw [show k + (n / 2 ^ k).log2 + 1 = (n / 2 ^ k).log2 + 1 + k by omega, Nat.pow_add]
    exact (Nat.div_lt_iff_lt_mul hk).1 h2
theorem lgL_step {k : Nat} {ks : List Nat} {b : Nat} (hs : ∀ n, n < 2 ^ b → lgL ks n = n.log2) (hk : k ≤ b) {n : Nat} (h : n < 2 ^ (b + k)) (hb : b ≤ k) : lgL (k :: ks) n = n.log2 := by
  obtain rfl : k = b := by omega
  unfold lgL
  rw [fo_eq, cond_beq]
  show (if n >>> k = 0 then _ else _) = _
  rw [Nat.shiftRight_eq_div_pow]
  by_cases c : n / 2 ^ k = 0
  · rw [if_pos c]
    apply hs
    have := Nat.lt_of_div_eq_zero (Nat.two_pow_pos k) c
    exact this
  · rw [if_neg c, log2_shift c]
    show k + lgL ks (n >>> k) = _
    rw [Nat.shiftRight_eq_div_pow, hs]
    rw [Nat.div_lt_iff_lt_mul (Nat.two_pow_pos k), ← Nat.pow_add]
    exact h
theorem lg_eq (n : Nat) : lg n = n.log2 := by
  unfold lg
  rw [cond_ble]
  by_cases c : 340282366920938463463374607431768211456 ≤ n
  · rw [if_pos c]
  · rw [if_neg c]
    have s0 : ∀ n, n < 2 ^ 1 → lgL [] n = n.log2 := by
      intro n hn
      rcases n with _ | _ | n
      · rfl
      · rfl
      · omega
    have s1 : ∀ n, n < 2 ^ 2 → lgL [1] n = n.log2 := fun n h => lgL_step s0 (Nat.le_refl _) h (Nat.le_refl _)
    have s2 : ∀ n, n < 2 ^ 4 → lgL [2, 1] n = n.log2 := fun n h => lgL_step s1 (Nat.le_refl _) h (Nat.le_refl _)
    have s3 : ∀ n, n < 2 ^ 8 → lgL [4, 2, 1] n = n.log2 := fun n h => lgL_step s2 (Nat.le_refl _) h (Nat.le_refl _)
    have s4 : ∀ n, n < 2 ^ 16 → lgL [8, 4, 2, 1] n = n.log2 := fun n h => lgL_step s3 (Nat.le_refl _) h (Nat.le_refl _)
    have s5 : ∀ n, n < 2 ^ 32 → lgL [16, 8, 4, 2, 1] n = n.log2 := fun n h => lgL_step s4 (Nat.le_refl _) h (Nat.le_refl _)
    have s6 : ∀ n, n < 2 ^ 64 → lgL [32, 16, 8, 4, 2, 1] n = n.log2 := fun n h => lgL_step s5 (Nat.le_refl _) h (Nat.le_refl _)
    exact lgL_step s6 (Nat.le_refl _) (by omega) (Nat.le_refl _)
/-- The logarithm by a guess. -/
def lgG (g n : Nat) : Nat :=
  fo (Nat.shiftRight n g) fun q => cond (Nat.beq q 1) g (cond (Nat.beq (Nat.shiftRight q 1) 1) (Nat.succ g) (lg n))
theorem lgG_eq (g n : Nat) : lgG g n = n.log2 := by
  unfold lgG
  rw [fo_eq, cond_beq]
  show (if n >>> g = 1 then _ else cond (Nat.beq (n >>> g >>> 1) 1) _ _) = _
  rw [cond_beq]
  have hg := Nat.two_pow_pos g
  by_cases c : n >>> g = 1
  · rw [if_pos c]
    rw [Nat.shiftRight_eq_div_pow] at c
    rw [log2_shift (k := g) (by omega), c]
    rfl
  · rw [if_neg c]
    by_cases c2 : n >>> g >>> 1 = 1
    · rw [if_pos c2]
      rw [← Nat.shiftRight_add, Nat.shiftRight_eq_div_pow] at c2
      rw [log2_shift (k := g + 1) (by omega), c2]
      rfl
    · rw [if_neg c2, lg_eq]
/-- Cut to the nearest. -/
def rne (n d : Nat) : Nat := cond (Nat.beq d 0) n (Nat.shiftRight (Nat.add n (Nat.add (Nat.sub (Nat.shiftLeft 1 (Nat.sub d 1)) 1) (Nat.land (Nat.shiftRight n d) 1))) d)
theorem rne_aux (h q r : Nat) (hr : r < 2 * h) : (2 * h * q + r + (h - 1 + q % 2)) / (2 * h) = q + (decide (2 * h < 2 * r) || (2 * h == 2 * r && q % 2 == 1)).toNat := by
  have hq := Nat.mod_two_eq_zero_or_one q
  have hh : 0 < h := by omega
  generalize q % 2 = t at *
  obtain ⟨Q, hQ⟩ : ∃ Q, 2 * h * q = Q := ⟨_, rfl⟩
  have k0 : r + (h - 1 + t) < 2 * h → (2 * h * q + r + (h - 1 + t)) / (2 * h) = q := by
    intro h1
    rw [Nat.div_eq_iff (by omega), Nat.mul_comm q, hQ]
    omega
  have k1 : 2 * h ≤ r + (h - 1 + t) → (2 * h * q + r + (h - 1 + t)) / (2 * h) = q + 1 := by
    intro h1
    rw [Nat.div_eq_iff (by omega), Nat.mul_comm (q + 1), Nat.mul_succ, hQ]
    omega
  by_cases c1 : 2 * h < 2 * r
  · have : (decide (2 * h < 2 * r) || (2 * h == 2 * r && t == 1)) = true := by rw [decide_eq_true c1]; rfl
    rw [this]
    exact k1 (by omega)
  · have d1 : decide (2 * h < 2 * r) = false := decide_eq_false c1
    rw [d1, Bool.false_or]
    by_cases c2 : h = r ∧ t = 1
    · obtain ⟨c2, c3⟩ := c2
      have : (2 * h == 2 * r && t == 1) = true := by rw [c2, c3]; simp
      rw [this]
      exact k1 (by omega)
    · have : (2 * h == 2 * r && t == 1) = false := by
        rw [Bool.eq_false_iff]
        intro hc
        rw [Bool.and_eq_true, beq_iff_eq, beq_iff_eq] at hc
        omega
      rw [this]
      exact k0 (by omega)
theorem rne_eq (n d : Nat) : rne n d = cutE n d := by
  unfold rne
  rw [cond_beq]
  show (if d = 0 then n else (n + ((1 <<< (d - 1) - 1) + (n >>> d &&& 1))) >>> d) = _
  by_cases c : d = 0
  · rw [if_pos c, c, cutE_zero]
  · rw [if_neg c]
    obtain ⟨e, rfl⟩ : ∃ e, d = e + 1 := ⟨d - 1, by omega⟩
    rw [Nat.add_sub_cancel, Nat.one_shiftLeft, Nat.shiftRight_eq_div_pow, Nat.shiftRight_eq_div_pow, Nat.and_one_is_mod]
    unfold cutE
    have hp : 2 ^ (e + 1) = 2 * 2 ^ e := by rw [Nat.pow_succ, Nat.mul_comm]
    have h0 := Nat.two_pow_pos e
    rw [hp]
    have hm := Nat.mod_lt n (show 0 < 2 * 2 ^ e by omega)
    have := rne_aux (2 ^ e) (n / (2 * 2 ^ e)) (n % (2 * 2 ^ e)) hm
    rw [Nat.div_add_mod] at this
    exact this
def nmax (a b : Nat) : Nat := cond (Nat.ble a b) b a
def nmin (a b : Nat) : Nat := cond (Nat.ble a b) a b
theorem nmax_eq (a b : Nat) : nmax a b = max a b := by unfold nmax; rw [cond_ble, Nat.max_def]
theorem nmin_eq (a b : Nat) : nmin a b = min a b := by unfold nmin; rw [cond_ble, Nat.min_def]
/-- The word that is nearest to n times two to the power of P - T, in units of the least magnitude. -/
def fnear (fb B inf sw : Nat) (T g s n P : Nat) : Nat :=
  cond (Nat.beq n 0) (Nat.mul s sw)
  (fo (nmax (Nat.sub (Nat.add P (lgG g n)) fb) T) fun L =>
   fo (cond (Nat.ble L P) (Nat.shiftLeft n (Nat.sub P L)) (rne n (Nat.sub L P))) fun kept =>
   Nat.add (Nat.mul s sw) (nmin (Nat.add (Nat.mul (Nat.sub L T) B) kept) inf))
theorem word_toNat (f : Format) (s : Bool) (r : Nat) : f.word s r = s.toNat * f.signWeight + r := by
  cases s <;> simp [Format.word]
theorem fnear_eq (f : Format) (T g : Nat) (s : Bool) (n P : Nat) (p : Int) (hp : p = f.leastPlace + P - T) :
    fnear f.fractionBits f.binade f.infRung f.signWeight T g s.toNat n P = f.nearest s n p := by
  rw [nearest_rung, word_toNat]
  unfold fnear
  rw [cond_beq]
  by_cases h0 : n = 0
  · rw [if_pos h0, h0]
    unfold rungP
    rw [if_pos rfl]
    rfl
  · rw [if_neg h0, fo_eq, fo_eq, nmax_eq, nmin_eq, lgG_eq, cond_ble, rne_eq]
    unfold rungP
    rw [if_neg h0]
    have eL : ((max (P + n.log2 - f.fractionBits) T : Nat) : Int) = lastP f n p - f.leastPlace + T := by
      unfold lastP
      omega
    obtain ⟨L, hL⟩ : ∃ L, max (P + n.log2 - f.fractionBits) T = L := ⟨_, rfl⟩
    obtain ⟨l, hl⟩ : ∃ l, lastP f n p = l := ⟨_, rfl⟩
    have hLT : T ≤ L := by omega
    show s.toNat * f.signWeight + min ((max (P + n.log2 - f.fractionBits) T - T) * f.binade + (if max (P + n.log2 - f.fractionBits) T ≤ P then n <<< (P - max (P + n.log2 - f.fractionBits) T) else cutE n (max (P + n.log2 - f.fractionBits) T - P))) f.infRung = _
    unfold keptP
    rw [hL, hl] at eL
    rw [hL, hl]
    have e1 : (l - f.leastPlace).toNat = L - T := by omega
    rw [e1]
    congr 4
    by_cases c : L ≤ P
    · rw [if_pos c]
      have e2 : (l - p).toNat = 0 := by omega
      have e3 : (p - l).toNat = P - L := by omega
      rw [e2, e3, cutE_zero]
    · rw [if_neg c]
      have e2 : (l - p).toNat = L - P := by omega
      have e3 : (p - l).toNat = 0 := by omega
      rw [e2, e3, Nat.shiftLeft_zero]
end Go.Proofs.Ytkldgcgijkfpaaa.Quick
