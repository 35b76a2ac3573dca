/- Plain law: quick roots, orders and changes of kind of floats, equal to the model's on all words. -/
import Derived.Test.YtkldgcgijkfpaaaFr
namespace Go.Proofs.Ytkldgcgijkfpaaa.Quick
open Ieee
open Go.Proofs.Ytkldgcgijkfpaaa.Rnd

/-- The whole root. -/
def newt (n : Nat) : Nat → Nat → Nat
  | 0, x => x
  | k + 1, x => fo (Nat.div (Nat.add x (Nat.div n x)) 2) fun y => newt n k y
def isRoot (n w : Nat) : Bool := and (Nat.ble (Nat.mul w w) n) (Nat.ble (Nat.succ n) (Nat.mul (Nat.succ w) (Nat.succ w)))
def isq (n lg : Nat) : Nat :=
  fo (newt n 7 (Nat.shiftLeft 1 (Nat.succ (Nat.div lg 2)))) fun w => cond (isRoot n w) w (cond (isRoot n (Nat.sub w 1)) (Nat.sub w 1) (Datum.rootFrom n (Nat.succ (Nat.div lg 2)) 0))
theorem sq_lt {a b : Nat} (h : a * a < b * b) : a < b := by
  rcases Nat.lt_or_ge a b with c | c
  · exact c
  · have := Nat.mul_le_mul c c
    omega
theorem rootFrom_spec (n : Nat) : ∀ (todo root : Nat), root * root ≤ n → n < (root + 2 ^ todo) * (root + 2 ^ todo) → Datum.rootFrom n todo root * Datum.rootFrom n todo root ≤ n ∧ n < (Datum.rootFrom n todo root + 1) * (Datum.rootFrom n todo root + 1)
  | 0, root, h1, h2 => ⟨h1, h2⟩
  | todo + 1, root, h1, h2 => by
    unfold Datum.rootFrom
    simp only [Nat.one_shiftLeft]
    have hp : 2 ^ (todo + 1) = 2 ^ todo + 2 ^ todo := by rw [Nat.pow_succ]; omega
    rw [hp, ← Nat.add_assoc] at h2
    by_cases c : (root + 2 ^ todo) * (root + 2 ^ todo) ≤ n
    · rw [if_pos c]
      exact rootFrom_spec n todo _ c h2
    · rw [if_neg c]
      exact rootFrom_spec n todo _ h1 (by omega)
theorem root_uniq {n a b : Nat} (h1 : a * a ≤ n) (h2 : n < (a + 1) * (a + 1)) (h3 : b * b ≤ n) (h4 : n < (b + 1) * (b + 1)) : a = b := by
  have := sq_lt (Nat.lt_of_le_of_lt h1 h4)
  have := sq_lt (Nat.lt_of_le_of_lt h3 h2)
  omega
theorem isRoot_true {n w : Nat} (h : isRoot n w = true) : w * w ≤ n ∧ n < (w + 1) * (w + 1) := by
  unfold isRoot at h
  rw [Bool.and_eq_true] at h
  exact ⟨Nat.le_of_ble_eq_true h.1, Nat.le_of_ble_eq_true h.2⟩
theorem isq_eq (n : Nat) : isq n n.log2 = Datum.rootFrom n (n.log2 / 2 + 1) 0 := by
  have hs := rootFrom_spec n (n.log2 / 2 + 1) 0 (by omega) (by
    rw [Nat.zero_add, ← Nat.pow_add]
    exact Nat.lt_of_lt_of_le Nat.lt_log2_self (Nat.pow_le_pow_right (by omega) (by omega)))
  unfold isq
  rw [fo_eq]
  cases c : isRoot n (newt n 7 (Nat.shiftLeft 1 (Nat.succ (Nat.div n.log2 2)))) with
  | true =>
    have h := isRoot_true c
    exact root_uniq h.1 h.2 hs.1 hs.2
  | false =>
    show cond (isRoot n _) _ _ = _
    cases c2 : isRoot n (Nat.sub (newt n 7 (Nat.shiftLeft 1 (Nat.succ (Nat.div n.log2 2)))) 1) with
    | true =>
      have h := isRoot_true c2
      exact root_uniq h.1 h.2 hs.1 hs.2
    | false => rfl
/-- The square root. -/
def fsqrtP (fb B inf sw lam : Nat) (slow : Unit → Option Nat) (x : Nat) : Option Nat :=
  fo (Nat.mod x sw) fun rx => cond (Nat.ble inf rx) (slow ()) (cond (Nat.beq rx 0) (slow ()) (cond (Nat.beq (sgq sw x) 0)
   (fo (maq B rx) fun m => fo (exq B rx) fun e => fo (Nat.sub (Nat.mul 2 (Nat.add fb 2)) (lgG fb m)) fun more0 =>
    fo (Nat.sub (Nat.add e 8192) (Nat.add lam more0)) fun d => fo (Nat.add more0 (Nat.mod d 2)) fun more =>
    fo (Nat.shiftLeft m more) fun n => fo (isq n (lgG (Nat.mul 2 (Nat.add fb 2)) n)) fun w =>
    cond (Nat.ble (Nat.add lam more) 8000) (fo (Nat.sub (Nat.div (Nat.sub (Nat.add e 8192) (Nat.add lam more)) 2) 1) fun P =>
    some (fnear fb B inf sw (Nat.sub 4096 lam) (Nat.add fb 2) 0 (Nat.add (Nat.mul 2 w) (cond (Nat.beq (Nat.mul w w) n) 0 1)) P)) (slow ())) (slow ())))
theorem root_num (d : Nat) {m : Nat} (i : Int) (h : m ≠ 0) {more n w : Nat} (hm : 2 * d - m.log2 + ((i - (2 * d - m.log2 : Nat)) % 2).toNat = more) (hn : m <<< more = n) (hw : Datum.rootFrom n (n.log2 / 2 + 1) 0 = w) : (Datum.number false m i).root d =
    some (.number false (2 * w + (w * w != n).toNat) ((i - more) / 2 - 1)) := by
  unfold Datum.root
  simp only [if_neg h, Bool.false_eq_true, if_false, hm, hn, hw]
section
variable (f : Format)
theorem fsqrtP_eq {lam : Nat} (hl : f.leastPlace = -(lam : Int)) (hl2 : lam ≤ 4000) (x : Nat) : fsqrtP f.fractionBits f.binade f.infRung f.signWeight lam (fun _ => f.sqrt x) x = f.sqrt x := by
  unfold fsqrtP
  rw [fo_eq, cond_ble, cond_beq, cond_beq]
  show (if f.infRung ≤ x % f.signWeight then _ else if x % f.signWeight = 0 then _ else _) = _
  by_cases hx : f.infRung ≤ x % f.signWeight
  · rw [if_pos hx]
  · rw [if_neg hx]
    by_cases h0 : x % f.signWeight = 0
    · rw [if_pos h0]
    · rw [if_neg h0]
      split
      · rename_i hs
        rw [fo_eq, fo_eq, fo_eq, fo_eq, fo_eq, fo_eq, fo_eq, cond_ble, fo_eq]
        rw [sgq_eq] at hs
        have hs2 : (x / f.signWeight % 2 == 1) = false := by
          cases h : (x / f.signWeight % 2 == 1)
          · rfl
          · rw [h] at hs; cases hs
        have hB : 0 < f.binade := Nat.two_pow_pos _
        obtain ⟨m, hm⟩ : ∃ m, maq f.binade (x % f.signWeight) = m := ⟨_, rfl⟩
        have hm2 : maq f.binade (x.mod f.signWeight) = m := hm
        obtain ⟨e, he⟩ : ∃ e, exq f.binade (x % f.signWeight) = e := ⟨_, rfl⟩
        have he2 : exq f.binade (x.mod f.signWeight) = e := he
        have hm0 : m ≠ 0 := fun h => h0 (maq_zero hB (hm.trans h))
        rw [hm2, he2, lgG_eq]
        obtain ⟨a, ha⟩ : ∃ a, 2 * (f.fractionBits + 2) - m.log2 = a := ⟨_, rfl⟩
        have ha2 : (Nat.mul 2 (f.fractionBits.add 2)).sub m.log2 = a := ha
        rw [ha2]
        obtain ⟨b, hb⟩ : ∃ b, a + (e + 8192 - (lam + a)) % 2 = b := ⟨_, rfl⟩
        have hb2 : a.add (((e.add 8192).sub (lam.add a)).mod 2) = b := hb
        rw [hb2]
        split
        · rename_i hle
          have hle2 : lam + b ≤ 8000 := hle
          obtain ⟨n, hn⟩ : ∃ n, m <<< b = n := ⟨_, rfl⟩
          have hn2 : m.shiftLeft b = n := hn
          rw [hn2, lgG_eq, isq_eq]
          obtain ⟨w, hw⟩ : ∃ w, Datum.rootFrom n (n.log2 / 2 + 1) 0 = w := ⟨_, rfl⟩
          rw [hw]
          unfold Format.sqrt
          rw [read_num f (x := x) (by omega), hs2, hm, he]
          have hmore : 2 * (f.fractionBits + 2) - m.log2 + ((f.leastPlace + (e : Int) - (2 * (f.fractionBits + 2) - m.log2 : Nat)) % 2).toNat = b := by
            rw [ha]
            omega
          rw [root_num (f.fractionBits + 2) (f.leastPlace + (e : Int)) hm0 hmore hn hw]
          show some (fnear _ _ _ _ _ _ 0 _ _) = some (f.nearest false _ _)
          congr 1
          have e1 : Nat.add (Nat.mul 2 w) (bif (Nat.mul w w).beq n then 0 else 1) = 2 * w + (w * w != n).toNat := by
            rw [cond_beq]
            show 2 * w + (if w * w = n then 0 else 1) = _
            congr 1
            by_cases c : w * w = n
            · rw [if_pos c, c]; simp
            · rw [if_neg c, bne_iff_ne.2 c]; rfl
          rw [e1]
          have := fnear_eq f (4096 - lam) (f.fractionBits + 2) false (2 * w + (w * w != n).toNat) ((e + 8192 - (lam + b)) / 2 - 1) ((f.leastPlace + (e : Int) - (b : Int)) / 2 - 1) (by
            have hbp : a ≤ b := by omega
            omega)
          exact this
        · rfl
      · rfl
/-- How two words stand to each other. -/
def ordN (A C : Nat) : Option Ordering := cond (Nat.beq A C) (some .eq) (cond (Nat.ble A C) (some .lt) (some .gt))
def forderP (B inf sw : Nat) (slow : Unit → Option Ordering) (x y : Nat) : Option Ordering :=
  fo (Nat.mod x sw) fun rx => fo (Nat.mod y sw) fun ry =>
  cond (Nat.ble inf rx) (slow ()) (cond (Nat.ble inf ry) (slow ())
  (fo (exq B rx) fun ex => fo (exq B ry) fun ey => fo (nmin ex ey) fun P =>
   fo (Nat.shiftLeft (maq B rx) (Nat.sub ex P)) fun A => fo (Nat.shiftLeft (maq B ry) (Nat.sub ey P)) fun C =>
   cond (Nat.beq (sgq sw x) 0) (cond (Nat.beq (sgq sw y) 0) (ordN A C) (cond (Nat.beq (Nat.add A C) 0) (some .eq) (some .gt)))
    (cond (Nat.beq (sgq sw y) 0) (cond (Nat.beq (Nat.add A C) 0) (some .eq) (some .lt)) (ordN C A))))
theorem cmp_lt {a b : Int} (h : a < b) : compare a b = .lt := by
  show compareOfLessAndEq a b = _
  unfold compareOfLessAndEq
  rw [if_pos h]
theorem cmp_eq {a b : Int} (h : a = b) : compare a b = .eq := by
  show compareOfLessAndEq a b = _
  unfold compareOfLessAndEq
  rw [if_neg (by omega), if_pos h]
theorem cmp_gt {a b : Int} (h : b < a) : compare a b = .gt := by
  show compareOfLessAndEq a b = _
  unfold compareOfLessAndEq
  rw [if_neg (by omega), if_neg (by omega)]
theorem ordN_eq (A C : Nat) : ordN A C = some (compare (A : Int) (C : Int)) := by
  unfold ordN
  rw [cond_beq, cond_ble]
  by_cases h : A = C
  · rw [if_pos h, cmp_eq (by omega)]
  · rw [if_neg h]
    by_cases h2 : A ≤ C
    · rw [if_pos h2, cmp_lt (by omega)]
    · rw [if_neg h2, cmp_gt (by omega)]
theorem forderP_eq (x y : Nat) : forderP f.binade f.infRung f.signWeight (fun _ => f.order x y) x y = f.order x y := by
  unfold forderP
  rw [fo_eq, fo_eq, cond_ble, cond_ble]
  show (if f.infRung ≤ x % f.signWeight then _ else if f.infRung ≤ y % f.signWeight then _ else _) = _
  by_cases hx : f.infRung ≤ x % f.signWeight
  · rw [if_pos hx]
  · rw [if_neg hx]
    by_cases hy : f.infRung ≤ y % f.signWeight
    · rw [if_pos hy]
    · rw [if_neg hy, fo_eq, fo_eq, fo_eq, fo_eq, fo_eq]
      unfold Format.order
      rw [read_num f (x := x) (by omega), read_num f (x := y) (by omega), sgq_eq, sgq_eq, nmin_eq]
      obtain ⟨sx, esx⟩ : ∃ s, (x / f.signWeight % 2 == 1) = s := ⟨_, rfl⟩
      obtain ⟨sy, esy⟩ : ∃ s, (y / f.signWeight % 2 == 1) = s := ⟨_, rfl⟩
      obtain ⟨ex, hex⟩ : ∃ e, exq f.binade (x % f.signWeight) = e := ⟨_, rfl⟩
      obtain ⟨ey, hey⟩ : ∃ e, exq f.binade (y % f.signWeight) = e := ⟨_, rfl⟩
      have hex2 : exq f.binade (x.mod f.signWeight) = ex := hex
      have hey2 : exq f.binade (y.mod f.signWeight) = ey := hey
      rw [esx, esy, hex, hey, hex2, hey2]
      have b1 : min (f.leastPlace + (ex : Int)) (f.leastPlace + (ey : Int)) = f.leastPlace + ((min ex ey : Nat) : Int) := by omega
      have b2 : (f.leastPlace + (ex : Int) - (f.leastPlace + ((min ex ey : Nat) : Int))).toNat = ex - min ex ey := by omega
      have b3 : (f.leastPlace + (ey : Int) - (f.leastPlace + ((min ex ey : Nat) : Int))).toNat = ey - min ex ey := by omega
      unfold Datum.order
      simp only [b1, b2, b3]
      rw [signed_shift sx (maq f.binade (x % f.signWeight)), signed_shift sy (maq f.binade (y % f.signWeight)), signed_eq, signed_eq]
      obtain ⟨A, hA⟩ : ∃ A, (maq f.binade (x % f.signWeight)) <<< (ex - min ex ey) = A := ⟨_, rfl⟩
      obtain ⟨C, hC⟩ : ∃ C, (maq f.binade (y % f.signWeight)) <<< (ey - min ex ey) = C := ⟨_, rfl⟩
      have hA2 : (maq f.binade (x.mod f.signWeight)).shiftLeft (ex.sub (min ex ey)) = A := hA
      have hC2 : (maq f.binade (y.mod f.signWeight)).shiftLeft (ey.sub (min ex ey)) = C := hC
      rw [hA, hC, hA2, hC2]
      have hz : Nat.beq (A.add C) 0 = decide (A + C = 0) := by
        show Nat.beq (A + C) 0 = _
        cases h : Nat.beq (A + C) 0
        · rw [decide_eq_false]; intro hc; rw [hc] at h; cases h
        · rw [decide_eq_true]; exact Nat.eq_of_beq_eq_true h
      rw [hz]
      cases sx <;> cases sy
      · exact ordN_eq A C
      · show cond (decide (A + C = 0)) _ _ = some (compare (A : Int) (-(C : Int)))
        by_cases h : A + C = 0
        · rw [decide_eq_true h, cmp_eq (by omega)]; rfl
        · rw [decide_eq_false h, cmp_gt (by omega)]; rfl
      · show cond (decide (A + C = 0)) _ _ = some (compare (-(A : Int)) (C : Int))
        by_cases h : A + C = 0
        · rw [decide_eq_true h, cmp_eq (by omega)]; rfl
        · rw [decide_eq_false h, cmp_lt (by omega)]; rfl
      · show ordN C A = some (compare (-(A : Int)) (-(C : Int)))
        rw [ordN_eq]
        congr 1
        rcases Int.lt_trichotomy (A : Int) C with h | h | h
        · rw [cmp_gt h, cmp_gt (by omega)]
        · rw [cmp_eq h.symm, cmp_eq (by omega)]
        · rw [cmp_lt h, cmp_lt (by omega)]
end
end Go.Proofs.Ytkldgcgijkfpaaa.Quick
