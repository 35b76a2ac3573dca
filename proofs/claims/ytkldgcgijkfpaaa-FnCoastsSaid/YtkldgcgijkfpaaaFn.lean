/- Plain law: still quicker sums, products and quotients for numbers of middling size, equal to the model's on all words. -/
import Derived.Test.YtkldgcgijkfpaaaFz
namespace Go.Proofs.Ytkldgcgijkfpaaa.Quick
open Ieee
open Go.Proofs.Ytkldgcgijkfpaaa.Rnd

/-- The word of n times two to the power of E over the least place, whose logarithm is l. -/
def fin (fb B sw s n l E : Nat) : Nat :=
  cond (Nat.ble fb l) (Nat.add (Nat.mul s sw) (Nat.add (Nat.mul (Nat.add E (Nat.sub l fb)) B) (rne n (Nat.sub l fb))))
   (Nat.add (Nat.mul s sw) (Nat.add (Nat.mul (Nat.sub E (Nat.sub fb l)) B) (Nat.shiftLeft n (Nat.sub fb l))))
section
variable (f : Format)
theorem cutE_top {n d k : Nat} (h : n < 2 ^ (k + d)) : cutE n d ≤ 2 ^ k := by
  refine Nat.le_trans (cutE_le n d) ?_
  have : n / 2 ^ d < 2 ^ k := by
    rw [Nat.div_lt_iff_lt_mul (Nat.two_pow_pos d), ← Nat.pow_add]
    exact h
  omega
theorem fin_eq (s : Bool) {n l E : Nat} (h0 : n ≠ 0) (hl : n.log2 = l) (h1 : E + l + 3 ≤ f.fractionBits + 2 ^ f.exponentBits) (h2 : f.fractionBits ≤ l + E) :
    fin f.fractionBits f.binade f.signWeight s.toNat n l E = f.nearest s n (f.leastPlace + E) := by
  rw [nearest_rung, word_toNat]
  have hn : n < 2 ^ (l + 1) := by rw [← hl]; exact Nat.lt_log2_self
  have hB : f.binade = 2 ^ f.fractionBits := rfl
  have hinf : ∀ k m : Nat, k + 3 ≤ 2 ^ f.exponentBits → m ≤ 2 * f.binade → min (k * f.binade + m) f.infRung = k * f.binade + m := by
    intro k m hk hm
    apply Nat.min_eq_left
    unfold Format.infRung
    have : (k + 2) * f.binade ≤ (2 ^ f.exponentBits - 1) * f.binade := Nat.mul_le_mul_right _ (by omega)
    rw [Nat.add_mul] at this
    omega
  unfold fin rungP keptP
  rw [cond_ble, if_neg h0]
  by_cases c : f.fractionBits ≤ l
  · rw [if_pos c]
    have eL : lastP f n (f.leastPlace + E) = f.leastPlace + (E + (l - f.fractionBits) : Nat) := by
      unfold lastP
      rw [hl]
      omega
    rw [eL]
    have e1 : (f.leastPlace + ((E + (l - f.fractionBits) : Nat) : Int) - f.leastPlace).toNat = E + (l - f.fractionBits) := by omega
    have e2 : (f.leastPlace + (E : Int) - (f.leastPlace + ((E + (l - f.fractionBits) : Nat) : Int))).toNat = 0 := by omega
    have e3 : (f.leastPlace + ((E + (l - f.fractionBits) : Nat) : Int) - (f.leastPlace + (E : Int))).toNat = l - f.fractionBits := by omega
    rw [e1, e2, e3, Nat.shiftLeft_zero, rne_eq, hinf]
    · rfl
    · omega
    · have : cutE n (l - f.fractionBits) ≤ 2 ^ (f.fractionBits + 1) := cutE_top (by rw [show f.fractionBits + 1 + (l - f.fractionBits) = l + 1 by omega]; exact hn)
      rw [hB]
      rw [Nat.pow_succ] at this
      omega
  · rw [if_neg c]
    have eL : lastP f n (f.leastPlace + E) = f.leastPlace + (E - (f.fractionBits - l) : Nat) := by
      unfold lastP
      rw [hl]
      omega
    rw [eL]
    have e1 : (f.leastPlace + ((E - (f.fractionBits - l) : Nat) : Int) - f.leastPlace).toNat = E - (f.fractionBits - l) := by omega
    have e2 : (f.leastPlace + (E : Int) - (f.leastPlace + ((E - (f.fractionBits - l) : Nat) : Int))).toNat = f.fractionBits - l := by omega
    have e3 : (f.leastPlace + ((E - (f.fractionBits - l) : Nat) : Int) - (f.leastPlace + (E : Int))).toNat = 0 := by omega
    rw [e1, e2, e3, cutE_zero, hinf]
    · rfl
    · omega
    · rw [Nat.shiftLeft_eq, hB]
      have h3 := Nat.mul_le_mul_right (2 ^ (f.fractionBits - l)) (Nat.le_of_lt hn)
      rw [← Nat.pow_add, show l + 1 + (f.fractionBits - l) = f.fractionBits + 1 by omega, Nat.pow_succ] at h3
      omega
/-- A normal magnitude of middling size. -/
theorem mid_read {x lo hi : Nat} (hlo : 1 ≤ lo) (hhi : hi + 2 ≤ 2 ^ f.exponentBits) (h1 : lo * f.binade ≤ x % f.signWeight) (h2 : x % f.signWeight ≤ hi * f.binade) :
    f.read x = .number (x / f.signWeight % 2 == 1) (f.binade + x % f.signWeight % f.binade) (f.leastPlace + (x % f.signWeight / f.binade - 1 : Nat)) ∧ lo ≤ x % f.signWeight / f.binade ∧ x % f.signWeight / f.binade ≤ hi := by
  have hB : 0 < f.binade := Nat.two_pow_pos _
  have hin : x % f.signWeight < f.infRung := by
    unfold Format.infRung
    have : (hi + 1) * f.binade ≤ (2 ^ f.exponentBits - 1) * f.binade := Nat.mul_le_mul_right _ (by omega)
    rw [Nat.add_mul] at this
    omega
  have hq : lo ≤ x % f.signWeight / f.binade := (Nat.le_div_iff_mul_le hB).2 h1
  refine ⟨?_, hq, ?_⟩
  · rw [read_num f hin]
    unfold maq exq
    rw [cond_ble, if_pos]
    · rfl
    · exact Nat.le_trans (Nat.le_mul_of_pos_left _ (by omega)) h1
  · have := Nat.div_le_div_right (c := f.binade) h2
    rw [Nat.mul_div_cancel _ hB] at this
    exact this
theorem mant_log (r : Nat) : (f.binade + r % f.binade).log2 = f.fractionBits := by
  have hB : 0 < f.binade := Nat.two_pow_pos _
  have := Nat.mod_lt r hB
  apply log2_uniq
  · exact Nat.le_add_right _ _
  · rw [Nat.pow_succ]
    have : f.binade = 2 ^ f.fractionBits := rfl
    omega
theorem log2_mul_bound {a b : Nat} (ha : a ≠ 0) (hb : b ≠ 0) : a.log2 + b.log2 ≤ (a * b).log2 ∧ (a * b).log2 ≤ a.log2 + b.log2 + 1 := by
  have a1 := Nat.log2_self_le ha
  have a2 : a < 2 ^ (a.log2 + 1) := Nat.lt_log2_self
  have b1 := Nat.log2_self_le hb
  have b2 : b < 2 ^ (b.log2 + 1) := Nat.lt_log2_self
  have hab : a * b ≠ 0 := Nat.mul_ne_zero ha hb
  constructor
  · rw [Nat.le_log2 hab, Nat.pow_add]
    exact Nat.mul_le_mul a1 b1
  · have : a * b < 2 ^ (a.log2 + b.log2 + 2) := by
      rw [show a.log2 + b.log2 + 2 = (a.log2 + 1) + (b.log2 + 1) by omega, Nat.pow_add]
      exact Nat.mul_lt_mul_of_lt_of_lt a2 b2
    have := (Nat.log2_lt hab).2 this
    omega
/-- Whether a magnitude is of middling size. -/
def midN (lo hi a : Nat) : Bool := cond (Nat.ble lo a) (Nat.ble a hi) false
theorem cond_mid {α : Type} (lo hi a : Nat) (x y : α) : cond (midN lo hi a) x y = if lo ≤ a then (if a ≤ hi then x else y) else y := by
  unfold midN
  rw [cond_ble]
  by_cases h : lo ≤ a
  · rw [if_pos h, if_pos h, cond_ble]
  · rw [if_neg h, if_neg h]; rfl
/-- The product. -/
def mulN3 (fb B sw lam x y a b n : Nat) : Option Nat :=
  some (fin fb B sw (Nat.mod (Nat.add (Nat.div x sw) (Nat.div y sw)) 2) n (lgG (Nat.add fb fb) n) (Nat.sub (Nat.add (Nat.div a B) (Nat.div b B)) (Nat.add lam 2)))
def mulN2 (fb B sw lam x y a b : Nat) : Option Nat :=
  fo (Nat.mul (Nat.add B (Nat.mod a B)) (Nat.add B (Nat.mod b B))) (mulN3 fb B sw lam x y a b)
def mulN1 (fb B sw lam lo hi : Nat) (slow : Unit → Option Nat) (x y a b : Nat) : Option Nat :=
  cond (midN lo hi a) (cond (midN lo hi b) (mulN2 fb B sw lam x y a b) (slow ())) (slow ())
def mulN0 (fb B sw lam lo hi : Nat) (slow : Unit → Option Nat) (x y a : Nat) : Option Nat := fo (Nat.mod y sw) (mulN1 fb B sw lam lo hi slow x y a)
def mulN (fb B sw lam lo hi : Nat) (slow : Unit → Option Nat) (x y : Nat) : Option Nat := fo (Nat.mod x sw) (mulN0 fb B sw lam lo hi slow x y)
theorem sgn_add (p q : Nat) : (p + q) % 2 = ((p % 2 == 1) ^^ (q % 2 == 1)).toNat := by
  rw [Nat.add_mod]
  rcases Nat.mod_two_eq_zero_or_one p with h | h <;> rcases Nat.mod_two_eq_zero_or_one q with k | k <;> rw [h, k] <;> rfl
theorem mulN_eq {lam lo hi L H : Nat} (hl : f.leastPlace = -(lam : Int)) (hL : L = lo * f.binade) (hH : H = hi * f.binade) (h1 : lam + 2 ≤ lo + lo) (h2 : hi + hi + f.fractionBits + 2 ≤ lam + 2 ^ f.exponentBits) (h3 : 1 ≤ lo) (h4 : hi + 2 ≤ 2 ^ f.exponentBits) (slow : Unit → Option Nat) (x y : Nat) (hslow : slow () = f.mul x y) :
    mulN f.fractionBits f.binade f.signWeight lam L H slow x y = f.mul x y := by
  unfold mulN mulN0 mulN1 mulN2 mulN3
  rw [fo_eq, fo_eq, cond_mid, cond_mid]
  show (if L ≤ x % f.signWeight then (if x % f.signWeight ≤ H then (if L ≤ y % f.signWeight then (if y % f.signWeight ≤ H then _ else _) else _) else _) else _) = _
  split
  · split
    · split
      · split
        · rename_i c1 c2 c3 c4
          subst hL hH
          obtain ⟨rx, x1, x2⟩ := mid_read f h3 h4 c1 c2
          obtain ⟨ry, y1, y2⟩ := mid_read f h3 h4 c3 c4
          rw [fo_eq, lgG_eq]
          unfold Format.mul
          rw [rx, ry]
          have hmx := mant_log f (x % f.signWeight)
          have hmy := mant_log f (y % f.signWeight)
          have hB : 0 < f.binade := Nat.two_pow_pos _
          obtain ⟨mx, ex⟩ : ∃ m, f.binade + x % f.signWeight % f.binade = m := ⟨_, rfl⟩
          obtain ⟨my, ey⟩ : ∃ m, f.binade + y % f.signWeight % f.binade = m := ⟨_, rfl⟩
          have ex2 : Nat.add f.binade (Nat.mod (Nat.mod x f.signWeight) f.binade) = mx := ex
          have ey2 : Nat.add f.binade (Nat.mod (Nat.mod y f.signWeight) f.binade) = my := ey
          rw [ex2, ey2, ex, ey]
          rw [ex] at hmx
          rw [ey] at hmy
          have hx0 : mx ≠ 0 := by omega
          have hy0 : my ≠ 0 := by omega
          have hlog := log2_mul_bound hx0 hy0
          rw [hmx, hmy] at hlog
          have hs : Nat.mod (Nat.add (Nat.div x f.signWeight) (Nat.div y f.signWeight)) 2 = ((x / f.signWeight % 2 == 1) ^^ (y / f.signWeight % 2 == 1)).toNat := by
            exact sgn_add _ _
          rw [hs]
          show some (fin _ _ _ _ (mx * my) (mx * my).log2 (x % f.signWeight / f.binade + y % f.signWeight / f.binade - (lam + 2))) = some (f.nearest _ (mx * my) _)
          congr 1
          have := fin_eq f ((x / f.signWeight % 2 == 1) ^^ (y / f.signWeight % 2 == 1)) (n := mx * my) (E := x % f.signWeight / f.binade + y % f.signWeight / f.binade - (lam + 2)) (Nat.mul_ne_zero hx0 hy0) rfl (by omega) (by omega)
          rw [this]
          congr 1
          omega
        · exact hslow
      · exact hslow
    · exact hslow
  · exact hslow
/-- The quotient. -/
def divN4 (fb B sw lam x y a b n : Nat) : Option Nat :=
  some (fin fb B sw (Nat.mod (Nat.add (Nat.div x sw) (Nat.div y sw)) 2) n (lgG (Nat.add fb 2) n) (Nat.sub (Nat.add (Nat.div a B) lam) (Nat.add (Nat.div b B) (Nat.add fb 3))))
def divN3 (fb B sw lam x y a b my dv : Nat) : Option Nat :=
  fo (Nat.add (Nat.mul 2 (Nat.div dv my)) (cond (Nat.beq (Nat.mod dv my) 0) 0 1)) (divN4 fb B sw lam x y a b)
def divN2 (fb B sw lam x y a b my : Nat) : Option Nat :=
  fo (Nat.shiftLeft (Nat.add B (Nat.mod a B)) (Nat.add fb 2)) (divN3 fb B sw lam x y a b my)
def divN1 (fb B sw lam lo hi : Nat) (slow : Unit → Option Nat) (x y a b : Nat) : Option Nat :=
  cond (midN lo hi a) (cond (midN lo hi b) (fo (Nat.add B (Nat.mod b B)) (divN2 fb B sw lam x y a b)) (slow ())) (slow ())
def divN0 (fb B sw lam lo hi : Nat) (slow : Unit → Option Nat) (x y a : Nat) : Option Nat := fo (Nat.mod y sw) (divN1 fb B sw lam lo hi slow x y a)
def divN (fb B sw lam lo hi : Nat) (slow : Unit → Option Nat) (x y : Nat) : Option Nat := fo (Nat.mod x sw) (divN0 fb B sw lam lo hi slow x y)
theorem divN_eq {lam lo hi L H : Nat} (hl : f.leastPlace = -(lam : Int)) (hL : L = lo * f.binade) (hH : H = hi * f.binade) (h1 : hi + (f.fractionBits + 3) ≤ lo + lam) (h2 : hi + lam + 10 ≤ lo + f.fractionBits + 2 ^ f.exponentBits) (h3 : 1 ≤ lo) (h4 : hi + 2 ≤ 2 ^ f.exponentBits) (slow : Unit → Option Nat) (x y : Nat) (hslow : slow () = f.div x y) :
    divN f.fractionBits f.binade f.signWeight lam L H slow x y = f.div x y := by
  unfold divN divN0 divN1 divN2 divN3 divN4
  rw [fo_eq, fo_eq, cond_mid, cond_mid]
  show (if L ≤ x % f.signWeight then (if x % f.signWeight ≤ H then (if L ≤ y % f.signWeight then (if y % f.signWeight ≤ H then _ else _) else _) else _) else _) = _
  split
  · split
    · split
      · split
        · rename_i c1 c2 c3 c4
          subst hL hH
          obtain ⟨rx, x1, x2⟩ := mid_read f h3 h4 c1 c2
          obtain ⟨ry, y1, y2⟩ := mid_read f h3 h4 c3 c4
          rw [fo_eq, fo_eq, fo_eq, lgG_eq]
          unfold Format.div
          rw [rx, ry]
          have hmx := mant_log f (x % f.signWeight)
          have hmy := mant_log f (y % f.signWeight)
          have hB : 0 < f.binade := Nat.two_pow_pos _
          obtain ⟨mx, ex⟩ : ∃ m, f.binade + x % f.signWeight % f.binade = m := ⟨_, rfl⟩
          obtain ⟨my, ey⟩ : ∃ m, f.binade + y % f.signWeight % f.binade = m := ⟨_, rfl⟩
          have ex2 : Nat.add f.binade (Nat.mod (Nat.mod x f.signWeight) f.binade) = mx := ex
          have ey2 : Nat.add f.binade (Nat.mod (Nat.mod y f.signWeight) f.binade) = my := ey
          rw [ex2, ey2, ex, ey]
          rw [ex] at hmx
          rw [ey] at hmy
          have hx0 : mx ≠ 0 := by omega
          have hy0 : my ≠ 0 := by omega
          rw [quotient_num _ _ _ _ _ _ hy0]
          have hmore : f.fractionBits + 2 + my.log2 - mx.log2 = f.fractionBits + 2 := by omega
          rw [hmore]
          obtain ⟨n, hn⟩ : ∃ n, 2 * (mx <<< (f.fractionBits + 2) / my) + (mx <<< (f.fractionBits + 2) % my != 0).toNat = n := ⟨_, rfl⟩
          have hn2 : Nat.add (Nat.mul 2 (Nat.div (Nat.shiftLeft mx (f.fractionBits.add 2)) my)) (bif (Nat.mod (Nat.shiftLeft mx (f.fractionBits.add 2)) my).beq 0 then 0 else 1) = n := by
            rw [← hn, cond_beq]
            show 2 * (mx <<< (f.fractionBits + 2) / my) + (if mx <<< (f.fractionBits + 2) % my = 0 then 0 else 1) = _
            congr 1
            by_cases c : mx <<< (f.fractionBits + 2) % my = 0
            · rw [if_pos c, c]; rfl
            · rw [if_neg c, bne_iff_ne.2 c]; rfl
          rw [hn, hn2]
          have hs : Nat.mod (Nat.add (Nat.div x f.signWeight) (Nat.div y f.signWeight)) 2 = ((x / f.signWeight % 2 == 1) ^^ (y / f.signWeight % 2 == 1)).toNat := by
            exact sgn_add _ _
          rw [hs]
          -- the quotient's size
          have q1 : 2 ^ (f.fractionBits + 1) ≤ mx <<< (f.fractionBits + 2) / my := by
            rw [Nat.shiftLeft_eq, Nat.le_div_iff_mul_le (by omega)]
            have b2 : my < 2 ^ (my.log2 + 1) := Nat.lt_log2_self
            have a1 := Nat.log2_self_le hx0
            rw [hmy] at b2
            rw [hmx] at a1
            calc 2 ^ (f.fractionBits + 1) * my ≤ 2 ^ (f.fractionBits + 1) * 2 ^ (f.fractionBits + 1) := Nat.mul_le_mul_left _ (Nat.le_of_lt b2)
              _ = 2 ^ f.fractionBits * 2 ^ (f.fractionBits + 2) := by rw [← Nat.pow_add, ← Nat.pow_add]; congr 1; omega
              _ ≤ mx * 2 ^ (f.fractionBits + 2) := Nat.mul_le_mul_right _ a1
          have q2 : mx <<< (f.fractionBits + 2) / my < 2 ^ (f.fractionBits + 3) := by
            rw [Nat.shiftLeft_eq, Nat.div_lt_iff_lt_mul (by omega)]
            have b1 := Nat.log2_self_le hy0
            have a2 : mx < 2 ^ (mx.log2 + 1) := Nat.lt_log2_self
            rw [hmy] at b1
            rw [hmx] at a2
            calc mx * 2 ^ (f.fractionBits + 2) < 2 ^ (f.fractionBits + 1) * 2 ^ (f.fractionBits + 2) := (Nat.mul_lt_mul_right (Nat.two_pow_pos _)).2 a2
              _ = 2 ^ (f.fractionBits + 3) * 2 ^ f.fractionBits := by rw [← Nat.pow_add, ← Nat.pow_add]; congr 1; omega
              _ ≤ 2 ^ (f.fractionBits + 3) * my := Nat.mul_le_mul_left _ b1
          have n1 : 2 ^ (f.fractionBits + 2) ≤ n := by rw [← hn, Nat.pow_succ]; omega
          have n2 : n < 2 ^ (f.fractionBits + 4) := by
            rw [← hn, Nat.pow_succ]
            have : ∀ b : Bool, b.toNat ≤ 1 := fun b => by cases b <;> decide
            have := this (mx <<< (f.fractionBits + 2) % my != 0)
            omega
          have n0 : n ≠ 0 := by have := Nat.two_pow_pos (f.fractionBits + 2); omega
          have l1 : f.fractionBits + 2 ≤ n.log2 := (Nat.le_log2 n0).2 n1
          have l2 : n.log2 < f.fractionBits + 4 := (Nat.log2_lt n0).2 n2
          show some (fin _ _ _ _ n n.log2 (x % f.signWeight / f.binade + lam - (y % f.signWeight / f.binade + (f.fractionBits + 3)))) = some (f.nearest _ n _)
          congr 1
          have := fin_eq f ((x / f.signWeight % 2 == 1) ^^ (y / f.signWeight % 2 == 1)) (n := n) (E := x % f.signWeight / f.binade + lam - (y % f.signWeight / f.binade + (f.fractionBits + 3))) n0 rfl (by omega) (by omega)
          rw [this]
          congr 1
          omega
        · exact hslow
      · exact hslow
    · exact hslow
  · exact hslow
/-- The sum or the difference of magnitudes m at places eb + d and eb, the first not below the second. -/
def addC1 (fb B sw s d eb n : Nat) : Option Nat := some (fin fb B sw s n (lgG (Nat.add fb d) n) eb)
def addC2 (fb B sw s d eb n : Nat) : Option Nat := cond (Nat.beq n 0) (some 0) (some (fin fb B sw s n (lgG (Nat.sub (Nat.add fb d) 1) n) eb))
def addCore (fb B sw s sub m k d eb : Nat) : Option Nat :=
  cond (Nat.beq sub 0) (fo (Nat.add (Nat.shiftLeft m d) k) (addC1 fb B sw s d eb)) (fo (Nat.sub (Nat.shiftLeft m d) k) (addC2 fb B sw s d eb))
def addN4 (fb B sw a b sx sy ea eb : Nat) : Option Nat :=
  cond (Nat.ble b a)
   (addCore fb B sw sx (Nat.mod (Nat.add sx sy) 2) (Nat.add B (Nat.mod a B)) (Nat.add B (Nat.mod b B)) (Nat.sub ea eb) (Nat.sub eb 1))
   (addCore fb B sw sy (Nat.mod (Nat.add sx sy) 2) (Nat.add B (Nat.mod b B)) (Nat.add B (Nat.mod a B)) (Nat.sub eb ea) (Nat.sub ea 1))
def addN3 (fb B sw a b sx sy ea : Nat) : Option Nat := fo (Nat.div b B) (addN4 fb B sw a b sx sy ea)
def addN2 (fb B sw a b sx sy : Nat) : Option Nat := fo (Nat.div a B) (addN3 fb B sw a b sx sy)
def addNs (fb B sw flip y a b sx : Nat) : Option Nat := fo (Nat.mod (Nat.add (Nat.div y sw) flip) 2) (addN2 fb B sw a b sx)
def addN1 (fb B sw lo hi : Nat) (slow : Unit → Option Nat) (flip x y a b : Nat) : Option Nat :=
  cond (midN lo hi a) (cond (midN lo hi b) (fo (Nat.mod (Nat.div x sw) 2) (addNs fb B sw flip y a b)) (slow ())) (slow ())
def addN0 (fb B sw lo hi : Nat) (slow : Unit → Option Nat) (flip x y a : Nat) : Option Nat := fo (Nat.mod y sw) (addN1 fb B sw lo hi slow flip x y a)
def addN (fb B sw lo hi : Nat) (slow : Unit → Option Nat) (flip x y : Nat) : Option Nat := fo (Nat.mod x sw) (addN0 fb B sw lo hi slow flip x y)
/-- What the core gives, as the nearest word of the sum. -/
theorem addCore_eq {s t : Bool} {m k d eb hi : Nat} (hm : m.log2 = f.fractionBits) (hk : k ≤ m <<< d) (hk0 : k ≠ 0) (h1 : eb + d ≤ hi) (h2 : hi + 4 ≤ 2 ^ f.exponentBits) (h3 : f.fractionBits ≤ eb) (hkl : k.log2 = f.fractionBits) :
    addCore f.fractionBits f.binade f.signWeight s.toNat ((s.toNat + t.toNat) % 2) m k d eb =
    some (f.nearest (if signed s (m <<< d) 0 + signed t k 0 = 0 then s && t else decide (signed s (m <<< d) 0 + signed t k 0 < 0)) (signed s (m <<< d) 0 + signed t k 0).natAbs (f.leastPlace + eb)) := by
  have hm0 : m ≠ 0 := by
    rintro rfl
    have : k = 0 := by simpa using hk
    exact hk0 this
  obtain ⟨A, hA⟩ : ∃ A, m <<< d = A := ⟨_, rfl⟩
  have hA2 : m.shiftLeft d = A := hA
  have hA0 : A ≠ 0 := by rw [← hA, Nat.shiftLeft_eq]; exact Nat.mul_ne_zero hm0 (by have := Nat.two_pow_pos d; omega)
  have hAl : A.log2 = f.fractionBits + d := by rw [← hA, Nat.shiftLeft_eq, log2_scale hm0, hm]
  have hAtop : A < 2 ^ (f.fractionBits + d + 1) := by rw [← hAl]; exact Nat.lt_log2_self
  unfold addCore addC1 addC2
  rw [hA2, hA, cond_beq, signed_eq, signed_eq]
  rw [hA] at hk
  by_cases hst : (s.toNat + t.toNat) % 2 = 0
  · rw [if_pos hst, fo_eq, lgG_eq]
    obtain rfl : s = t := by cases s <;> cases t <;> first | rfl | cases hst
    have hn0 : A + k ≠ 0 := by omega
    have hlog : (A + k).log2 < f.fractionBits + d + 2 := by
      rw [Nat.log2_lt hn0, Nat.pow_succ]
      omega
    have := fin_eq f s (n := A + k) (E := eb) hn0 rfl (by omega) (by omega)
    show some (fin _ _ _ s.toNat (A + k) (A + k).log2 eb) = _
    rw [this]
    congr 1
    cases s
    · simp only [Bool.false_eq_true, if_false]
      rw [if_neg (by omega), decide_eq_false (by omega)]
      congr 1
    · simp only [if_true]
      rw [if_neg (by omega), decide_eq_true (by omega)]
      congr 1
      omega
  · rw [if_neg hst, fo_eq, cond_beq]
    obtain rfl : t = !s := by cases s <;> cases t <;> first | rfl | exact absurd rfl hst
    have e2 : (if s = true then -(A : Int) else (A : Int)) + (if (!s) = true then -(k : Int) else (k : Int)) = if s = true then (k : Int) - A else (A : Int) - k := by cases s <;> simp <;> omega
    rw [e2]
    by_cases h0 : A.sub k = 0
    · rw [if_pos h0]
      have h0' : A - k = 0 := h0
      have e3 : (if s = true then (k : Int) - A else (A : Int) - k) = 0 := by cases s <;> simp <;> omega
      rw [e3]
      simp only [if_true, Int.natAbs_zero]
      rw [nearest_rung]
      have e1 : (s && !s) = false := by cases s <;> rfl
      rw [e1]
      unfold rungP
      rw [if_pos rfl]
      rfl
    · rw [if_neg h0, lgG_eq]
      have h0' : A - k ≠ 0 := h0
      have e3 : (if s = true then (k : Int) - A else (A : Int) - k) ≠ 0 := by cases s <;> simp <;> omega
      rw [if_neg e3]
      have hlog : (A - k).log2 < f.fractionBits + d + 1 := by
        rw [Nat.log2_lt h0']
        omega
      have := fin_eq f s (n := A - k) (E := eb) h0' rfl (by omega) (by omega)
      show some (fin _ _ _ s.toNat (A - k) (A - k).log2 eb) = _
      rw [this]
      congr 2
      · cases s <;> simp <;> omega
      · cases s <;> simp <;> omega
theorem addN_eq {lo hi L H : Nat} (hL : L = lo * f.binade) (hH : H = hi * f.binade) (h1 : f.fractionBits + 1 ≤ lo) (h4 : hi + 4 ≤ 2 ^ f.exponentBits) (b : Bool) (slow : Unit → Option Nat) (x y : Nat) (hslow : slow () = ((f.read x).sum (if b then (f.read y).opposite else f.read y)).map f.write) :
    addN f.fractionBits f.binade f.signWeight L H slow b.toNat x y = ((f.read x).sum (if b then (f.read y).opposite else f.read y)).map f.write := by
  unfold addN addN0 addN1 addNs addN2 addN3 addN4
  rw [fo_eq, fo_eq, cond_mid, cond_mid]
  show (if L ≤ x % f.signWeight then (if x % f.signWeight ≤ H then (if L ≤ y % f.signWeight then (if y % f.signWeight ≤ H then _ else _) else _) else _) else _) = _
  split
  · split
    · split
      · split
        · rename_i c1 c2 c3 c4
          subst hL hH
          obtain ⟨rx, x1, x2⟩ := mid_read f (by omega) (by omega) c1 c2
          obtain ⟨ry, y1, y2⟩ := mid_read f (by omega) (by omega) c3 c4
          rw [fo_eq, fo_eq, fo_eq, fo_eq, cond_ble]
          rw [rx, ry]
          have hmx := mant_log f (x % f.signWeight)
          have hmy := mant_log f (y % f.signWeight)
          have hB : 0 < f.binade := Nat.two_pow_pos _
          obtain ⟨sx, esx⟩ : ∃ s, (x / f.signWeight % 2 == 1) = s := ⟨_, rfl⟩
          obtain ⟨sy, esy⟩ : ∃ s, (y / f.signWeight % 2 == 1) = s := ⟨_, rfl⟩
          have hsx : Nat.mod (Nat.div x f.signWeight) 2 = sx.toNat := by rw [← esx]; exact sgq_eq _ _
          have hsy : Nat.mod (Nat.add (Nat.div y f.signWeight) b.toNat) 2 = (sy ^^ b).toNat := by
            rw [← esy]
            have := sgn_add (y / f.signWeight) b.toNat
            have hb : (b.toNat % 2 == 1) = b := by cases b <;> rfl
            rw [hb] at this
            exact this
          have e2 : (if b then (Datum.number sy (f.binade + y % f.signWeight % f.binade) (f.leastPlace + (y % f.signWeight / f.binade - 1 : Nat))).opposite else Datum.number sy (f.binade + y % f.signWeight % f.binade) (f.leastPlace + (y % f.signWeight / f.binade - 1 : Nat))) = Datum.number (sy ^^ b) (f.binade + y % f.signWeight % f.binade) (f.leastPlace + (y % f.signWeight / f.binade - 1 : Nat)) := by
            cases b <;> cases sy <;> rfl
          rw [esx, esy, e2, hsx, hsy]
          have hda : (x.mod f.signWeight).div f.binade = x % f.signWeight / f.binade := rfl
          have hdb : (y.mod f.signWeight).div f.binade = y % f.signWeight / f.binade := rfl
          have hma : f.binade.add ((x.mod f.signWeight).mod f.binade) = f.binade + x % f.signWeight % f.binade := rfl
          have hmb : f.binade.add ((y.mod f.signWeight).mod f.binade) = f.binade + y % f.signWeight % f.binade := rfl
          rw [hda, hdb, hma, hmb]
          have hle : x % f.signWeight ≤ y % f.signWeight → x % f.signWeight / f.binade ≤ y % f.signWeight / f.binade := fun h => Nat.div_le_div_right h
          have hle2 : y % f.signWeight ≤ x % f.signWeight → y % f.signWeight / f.binade ≤ x % f.signWeight / f.binade := fun h => Nat.div_le_div_right h
          have da := Nat.div_add_mod (x % f.signWeight) f.binade
          have db := Nat.div_add_mod (y % f.signWeight) f.binade
          have la := Nat.mod_lt (x % f.signWeight) hB
          have lb := Nat.mod_lt (y % f.signWeight) hB
          obtain ⟨ea, hea⟩ : ∃ e, x % f.signWeight / f.binade = e := ⟨_, rfl⟩
          obtain ⟨eb, heb⟩ : ∃ e, y % f.signWeight / f.binade = e := ⟨_, rfl⟩
          obtain ⟨ma, ha⟩ : ∃ m, f.binade + x % f.signWeight % f.binade = m := ⟨_, rfl⟩
          obtain ⟨mb, hb⟩ : ∃ m, f.binade + y % f.signWeight % f.binade = m := ⟨_, rfl⟩
          rw [hea] at x1 x2 hle hle2 da
          rw [heb] at y1 y2 hle hle2 db
          rw [ha] at hmx
          rw [hb] at hmy
          rw [hea, heb, ha, hb]
          unfold Datum.sum
          simp only
          have b1 : min (f.leastPlace + ((ea - 1 : Nat) : Int)) (f.leastPlace + ((eb - 1 : Nat) : Int)) = f.leastPlace + ((min ea eb - 1 : Nat) : Int) := by omega
          have b2 : (f.leastPlace + ((ea - 1 : Nat) : Int) - (f.leastPlace + ((min ea eb - 1 : Nat) : Int))).toNat = ea - min ea eb := by omega
          have b3 : (f.leastPlace + ((eb - 1 : Nat) : Int) - (f.leastPlace + ((min ea eb - 1 : Nat) : Int))).toNat = eb - min ea eb := by omega
          simp only [b1, b2, b3]
          rw [signed_shift sx ma, signed_shift (sy ^^ b) mb]
          show _ = some (f.nearest _ _ _)
          by_cases hab : y.mod f.signWeight ≤ x.mod f.signWeight
          · rw [if_pos hab]
            have hee := hle2 hab
            have m1 : min ea eb = eb := by omega
            rw [m1, Nat.sub_self, Nat.shiftLeft_zero]
            apply addCore_eq f (hi := hi) hmx ?_ (by omega) (by show eb - 1 + (ea - eb) ≤ hi; omega) h4 (by show f.fractionBits ≤ eb - 1; omega) hmy
            have hab' : y % f.signWeight ≤ x % f.signWeight := hab
            show mb ≤ ma <<< (ea - eb)
            rw [Nat.shiftLeft_eq]
            rcases Nat.eq_or_lt_of_le hee with e | e
            · rw [e, Nat.sub_self, Nat.pow_zero, Nat.mul_one]
              rw [e] at db
              omega
            · have : ma * 2 ^ 1 ≤ ma * 2 ^ (ea - eb) := Nat.mul_le_mul_left _ (Nat.pow_le_pow_right (by omega) (by omega))
              omega
          · rw [if_neg hab]
            have hab' : x % f.signWeight ≤ y % f.signWeight := by
              have : ¬ y % f.signWeight ≤ x % f.signWeight := hab
              omega
            have hee := hle hab'
            have m1 : min ea eb = ea := by omega
            rw [m1, Nat.sub_self, Nat.shiftLeft_zero]
            have hc := addCore_eq f (s := sy ^^ b) (t := sx) (m := mb) (k := ma) (d := eb - ea) (eb := ea - 1) (hi := hi) hmy (by
              rw [Nat.shiftLeft_eq]
              rcases Nat.eq_or_lt_of_le hee with e | e
              · rw [e, Nat.sub_self, Nat.pow_zero, Nat.mul_one]
                rw [e] at da
                omega
              · have : mb * 2 ^ 1 ≤ mb * 2 ^ (eb - ea) := Nat.mul_le_mul_left _ (Nat.pow_le_pow_right (by omega) (by omega))
                omega) (by omega) (by omega) h4 (by omega) hmx
            rw [Nat.add_comm, Int.add_comm (signed (sy ^^ b) _ _), Bool.and_comm] at hc
            exact hc
        · exact hslow
      · exact hslow
    · exact hslow
  · exact hslow
end
end Go.Proofs.Ytkldgcgijkfpaaa.Quick
