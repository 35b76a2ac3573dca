/- Plain law: quick sums, products, quotients and changes of kind of floats, equal to the model's on all words. -/
import Derived.Test.YtkldgcgijkfpaaaFq
namespace Go.Proofs.Ytkldgcgijkfpaaa.Quick
open Ieee
open Go.Proofs.Ytkldgcgijkfpaaa.Rnd

/-- The place of a rung over the least one. -/
def exq (B r : Nat) : Nat := Nat.sub (Nat.div r B) 1
def maq (B r : Nat) : Nat := cond (Nat.ble B r) (Nat.add B (Nat.mod r B)) r
def sgq (sw x : Nat) : Nat := Nat.mod (Nat.div x sw) 2
theorem sgq_eq (sw x : Nat) : sgq sw x = (x / sw % 2 == 1).toNat := by
  show x / sw % 2 = _
  rcases Nat.mod_two_eq_zero_or_one (x / sw) with h | h <;> rw [h] <;> rfl
section
variable (f : Format)
theorem binade_le_inf : f.binade ≤ f.infRung ∨ f.exponentBits = 0 := by
  by_cases h : f.exponentBits = 0
  · exact .inr h
  · left
    unfold Format.infRung
    have : 2 ^ 1 ≤ 2 ^ f.exponentBits := Nat.pow_le_pow_right (by omega) (by omega)
    exact Nat.le_mul_of_pos_left _ (by omega)
theorem read_num {x : Nat} (h : x % f.signWeight < f.infRung) : f.read x = .number (x / f.signWeight % 2 == 1) (maq f.binade (x % f.signWeight)) (f.leastPlace + (exq f.binade (x % f.signWeight) : Nat)) := by
  unfold Format.read maq exq
  rw [cond_ble]
  have hB : 0 < f.binade := Nat.two_pow_pos _
  by_cases c : x % f.signWeight < f.binade
  · simp only [if_pos c]
    rw [if_neg (by omega)]
    have : (x % f.signWeight).div f.binade = 0 := Nat.div_eq_of_lt c
    rw [this]
    show _ = Datum.number _ _ (f.leastPlace + 0)
    rw [Int.add_zero]
  · simp only [if_neg c, if_pos h]
    rw [if_pos (by omega)]
    rfl
/-- The product. -/
def fmulP (fb B inf sw lam : Nat) (slow : Unit → Option Nat) (x y : Nat) : Option Nat :=
  fo (Nat.mod x sw) fun rx => fo (Nat.mod y sw) fun ry =>
  cond (Nat.ble inf rx) (slow ()) (cond (Nat.ble inf ry) (slow ())
  (fo (Nat.mul (maq B rx) (maq B ry)) fun n => fo (Nat.add (exq B rx) (exq B ry)) fun P => fo (Nat.mod (Nat.add (sgq sw x) (sgq sw y)) 2) fun s =>
    some (fnear fb B inf sw lam (Nat.add fb fb) s n P)))
theorem xor_toNat (s t : Bool) : (s.toNat + t.toNat) % 2 = (s ^^ t).toNat := by cases s <;> cases t <;> rfl
theorem fmulP_eq {lam : Nat} (hl : f.leastPlace = -(lam : Int)) (x y : Nat) : fmulP f.fractionBits f.binade f.infRung f.signWeight lam (fun _ => f.mul x y) x y = f.mul x y := by
  unfold fmulP
  rw [fo_eq, fo_eq, cond_ble, cond_ble]
  show (if f.infRung ≤ x % f.signWeight then _ else if f.infRung ≤ y % f.signWeight then _ else _) = _
  by_cases hx : f.infRung ≤ x % f.signWeight
  · rw [if_pos hx]
  · rw [if_neg hx]
    by_cases hy : f.infRung ≤ y % f.signWeight
    · rw [if_pos hy]
    · rw [if_neg hy, fo_eq, fo_eq, fo_eq]
      unfold Format.mul
      rw [read_num f (x := x) (by omega), read_num f (x := y) (by omega)]
      show some (fnear _ _ _ _ _ _ ((sgq f.signWeight x + sgq f.signWeight y) % 2) (maq f.binade (x % f.signWeight) * maq f.binade (y % f.signWeight)) (exq f.binade (x % f.signWeight) + exq f.binade (y % f.signWeight))) = some (f.nearest _ (maq f.binade (x % f.signWeight) * maq f.binade (y % f.signWeight)) _)
      rw [sgq_eq, sgq_eq, xor_toNat]
      congr 1
      exact fnear_eq f _ _ _ _ _ _ (by omega)
/-- The sum of magnitudes A and C with signs, at a place. -/
def fsumP (fb B inf sw g sx sy A C P : Nat) : Option Nat :=
  cond (Nat.beq sx sy) (some (fnear fb B inf sw 0 g sx (Nat.add A C) P))
  (cond (Nat.beq A C) (some 0) (cond (Nat.ble C A) (some (fnear fb B inf sw 0 (Nat.sub g 1) sx (Nat.sub A C) P)) (some (fnear fb B inf sw 0 (Nat.sub g 1) sy (Nat.sub C A) P))))
def faddP (fb B inf sw : Nat) (slow : Unit → Option Nat) (flip x y : Nat) : Option Nat :=
  fo (Nat.mod x sw) fun rx => fo (Nat.mod y sw) fun ry =>
  cond (Nat.ble inf rx) (slow ()) (cond (Nat.ble inf ry) (slow ())
  (fo (exq B rx) fun ex => fo (exq B ry) fun ey => fo (nmin ex ey) fun P =>
   fo (Nat.shiftLeft (maq B rx) (Nat.sub ex P)) fun A => fo (Nat.shiftLeft (maq B ry) (Nat.sub ey P)) fun C =>
   fo (sgq sw x) fun sx => fo (Nat.mod (Nat.add (sgq sw y) flip) 2) fun sy =>
   fsumP fb B inf sw (Nat.add fb (Nat.sub (nmax ex ey) P)) sx sy A C P))
theorem signed_shift (s : Bool) (m k : Nat) : signed s m k = signed s (m <<< k) 0 := by unfold signed; rw [Nat.shiftLeft_zero]
theorem signed_eq (s : Bool) (m : Nat) : signed s m 0 = if s then -(m : Int) else (m : Int) := by unfold signed; rw [Nat.shiftLeft_zero]
theorem toNat_inj {s t : Bool} : s.toNat = t.toNat ↔ s = t := by cases s <;> cases t <;> decide
theorem fsumP_eq (g P A C : Nat) (s t : Bool) : fsumP f.fractionBits f.binade f.infRung f.signWeight g s.toNat t.toNat A C P =
    some (f.nearest (if signed s A 0 + signed t C 0 = 0 then s && t else decide (signed s A 0 + signed t C 0 < 0)) (signed s A 0 + signed t C 0).natAbs (f.leastPlace + P)) := by
  unfold fsumP
  rw [cond_beq, cond_beq, cond_ble, signed_eq, signed_eq]
  by_cases hst : s.toNat = t.toNat
  · rw [if_pos hst]
    obtain rfl := toNat_inj.1 hst
    congr 1
    rw [fnear_eq f 0 g s (Nat.add A C) P (f.leastPlace + P) (by omega)]
    show f.nearest s (A + C) _ = _
    cases s
    · simp only [Bool.false_eq_true, if_false]
      congr 1
      · split
        · rfl
        · exact (decide_eq_false (by omega)).symm
    · simp only [if_true]
      congr 1
      · split
        · rfl
        · exact (decide_eq_true (by omega)).symm
      · omega
  · rw [if_neg hst]
    obtain rfl : t = !s := by cases s <;> cases t <;> first | rfl | exact absurd rfl hst
    by_cases hAC : A = C
    · rw [if_pos hAC, hAC]
      congr 1
      have e0 : ((if s = true then -(C : Int) else (C : Int)) + (if (!s) = true then -(C : Int) else (C : Int))) = 0 := by cases s <;> simp <;> omega
      rw [e0]
      simp only [if_true, Int.natAbs_zero]
      rw [nearest_rung]
      have e1 : (s && !s) = false := by cases s <;> rfl
      rw [e1]
      unfold rungP
      rw [if_pos rfl]
      rfl
    · rw [if_neg hAC]
      have e2 : (if s = true then -(A : Int) else (A : Int)) + (if (!s) = true then -(C : Int) else (C : Int)) = if s = true then (C : Int) - A else (A : Int) - C := by cases s <;> simp <;> omega
      rw [e2]
      have e3 : (if s = true then (C : Int) - A else (A : Int) - C) ≠ 0 := by cases s <;> simp <;> omega
      rw [if_neg e3]
      by_cases hc : C ≤ A
      · rw [if_pos hc, fnear_eq f 0 _ s (Nat.sub A C) P (f.leastPlace + P) (by omega)]
        show some (f.nearest s (A - C) _) = _
        congr 2
        · cases s <;> simp <;> omega
        · cases s <;> simp <;> omega
      · rw [if_neg hc, fnear_eq f 0 _ (!s) (Nat.sub C A) P (f.leastPlace + P) (by omega)]
        show some (f.nearest (!s) (C - A) _) = _
        congr 2
        · cases s <;> simp <;> omega
        · cases s <;> simp <;> omega
theorem faddP_sum {x y : Nat} (b : Bool) (hx : x % f.signWeight < f.infRung) (hy : y % f.signWeight < f.infRung) (slow : Unit → Option Nat) :
    faddP f.fractionBits f.binade f.infRung f.signWeight slow b.toNat x y = ((f.read x).sum (if b then (f.read y).opposite else f.read y)).map f.write := by
  unfold faddP
  rw [fo_eq, fo_eq, cond_ble, cond_ble]
  show (if f.infRung ≤ x % f.signWeight then _ else if f.infRung ≤ y % f.signWeight then _ else _) = _
  rw [if_neg (by omega), if_neg (by omega), fo_eq, fo_eq, fo_eq, fo_eq, fo_eq, fo_eq, fo_eq]
  rw [read_num f hx, read_num f hy, sgq_eq]
  obtain ⟨sx, esx⟩ : ∃ s, (x / f.signWeight % 2 == 1) = s := ⟨_, rfl⟩
  obtain ⟨sy, esy⟩ : ∃ s, (y / f.signWeight % 2 == 1) = s := ⟨_, rfl⟩
  have e1 : (sgq f.signWeight y).add b.toNat % 2 = (sy ^^ b).toNat := by
    rw [sgq_eq, esy]
    exact xor_toNat sy b
  have e2 : (if b then (Datum.number sy (maq f.binade (y % f.signWeight)) (f.leastPlace + (exq f.binade (y % f.signWeight) : Nat))).opposite else Datum.number sy (maq f.binade (y % f.signWeight)) (f.leastPlace + (exq f.binade (y % f.signWeight) : Nat))) = Datum.number (sy ^^ b) (maq f.binade (y % f.signWeight)) (f.leastPlace + (exq f.binade (y % f.signWeight) : Nat)) := by
    cases b <;> cases sy <;> rfl
  rw [esx, esy, e2]
  show fsumP _ _ _ _ _ sx.toNat ((sgq f.signWeight y).add b.toNat % 2) _ _ _ = _
  rw [e1, fsumP_eq, nmin_eq]
  obtain ⟨ex, hex⟩ : ∃ e, exq f.binade (x % f.signWeight) = e := ⟨_, rfl⟩
  obtain ⟨ey, hey⟩ : ∃ e, exq f.binade (y % f.signWeight) = e := ⟨_, rfl⟩
  have hex2 : exq f.binade (x.mod f.signWeight) = ex := hex
  have hey2 : exq f.binade (y.mod f.signWeight) = ey := hey
  rw [hex, hey, hex2, hey2]
  have b1 : min (f.leastPlace + (ex : Int)) (f.leastPlace + (ey : Int)) = f.leastPlace + ((min ex ey : Nat) : Int) := by omega
  have b2 : (f.leastPlace + (ex : Int) - (f.leastPlace + ((min ex ey : Nat) : Int))).toNat = ex - min ex ey := by omega
  have b3 : (f.leastPlace + (ey : Int) - (f.leastPlace + ((min ex ey : Nat) : Int))).toNat = ey - min ex ey := by omega
  unfold Datum.sum
  simp only [b1, b2, b3]
  rw [signed_shift sx (maq f.binade (x % f.signWeight)), signed_shift (sy ^^ b) (maq f.binade (y % f.signWeight))]
  rfl
theorem faddP_eq (x y : Nat) : faddP f.fractionBits f.binade f.infRung f.signWeight (fun _ => f.add x y) 0 x y = f.add x y := by
  by_cases hx : x % f.signWeight < f.infRung
  · by_cases hy : y % f.signWeight < f.infRung
    · exact faddP_sum f false hx hy _
    · unfold faddP
      rw [fo_eq, fo_eq, cond_ble, cond_ble]
      show (if f.infRung ≤ x % f.signWeight then _ else if f.infRung ≤ y % f.signWeight then _ else _) = _
      rw [if_neg (by omega), if_pos (by omega)]
  · unfold faddP
    rw [fo_eq, fo_eq, cond_ble]
    show (if f.infRung ≤ x % f.signWeight then _ else _) = _
    rw [if_pos (by omega)]
theorem fsubP_eq (x y : Nat) : faddP f.fractionBits f.binade f.infRung f.signWeight (fun _ => f.sub x y) 1 x y = f.sub x y := by
  by_cases hx : x % f.signWeight < f.infRung
  · by_cases hy : y % f.signWeight < f.infRung
    · exact faddP_sum f true hx hy _
    · unfold faddP
      rw [fo_eq, fo_eq, cond_ble, cond_ble]
      show (if f.infRung ≤ x % f.signWeight then _ else if f.infRung ≤ y % f.signWeight then _ else _) = _
      rw [if_neg (by omega), if_pos (by omega)]
  · unfold faddP
    rw [fo_eq, fo_eq, cond_ble]
    show (if f.infRung ≤ x % f.signWeight then _ else _) = _
    rw [if_pos (by omega)]
/-- The quotient. -/
def fdivP (fb B inf sw lam : Nat) (slow : Unit → Option Nat) (x y : Nat) : Option Nat :=
  fo (Nat.mod x sw) fun rx => fo (Nat.mod y sw) fun ry =>
  cond (Nat.ble inf rx) (slow ()) (cond (Nat.ble inf ry) (slow ()) (cond (Nat.beq ry 0) (slow ())
  (fo (maq B rx) fun mx => fo (maq B ry) fun my =>
   fo (Nat.sub (Nat.add (Nat.add fb 2) (lgG fb my)) (lgG fb mx)) fun more =>
   fo (Nat.shiftLeft mx more) fun dv => fo (Nat.add (Nat.mul 2 (Nat.div dv my)) (cond (Nat.beq (Nat.mod dv my) 0) 0 1)) fun n =>
   fo (Nat.add (Nat.add (exq B ry) more) 1) fun d => fo (Nat.add (exq B rx) (Nat.add 4096 lam)) fun u =>
   cond (Nat.ble d u) (fo (Nat.sub u d) fun P => fo (Nat.mod (Nat.add (sgq sw x) (sgq sw y)) 2) fun s => some (fnear fb B inf sw 4096 (Nat.add fb 2) s n P)) (slow ()))))
theorem maq_zero {B r : Nat} (hB : 0 < B) (h : maq B r = 0) : r = 0 := by
  unfold maq at h
  rw [cond_ble] at h
  split at h
  · have : B + r % B = 0 := h
    omega
  · exact h
theorem quotient_num (d : Nat) (s t : Bool) (m : Nat) {n : Nat} (i j : Int) (h : n ≠ 0) : (Datum.number s m i).quotient d (Datum.number t n j) =
    some (.number (s ^^ t) (2 * (m <<< (d + n.log2 - m.log2) / n) + (m <<< (d + n.log2 - m.log2) % n != 0).toNat) (i - j - ((d + n.log2 - m.log2 : Nat) : Int) - 1)) := by
  unfold Datum.quotient
  simp only [if_neg h]
theorem fdivP_eq {lam : Nat} (hl : f.leastPlace = -(lam : Int)) (x y : Nat) : fdivP f.fractionBits f.binade f.infRung f.signWeight lam (fun _ => f.div x y) x y = f.div x y := by
  unfold fdivP
  rw [fo_eq, fo_eq, cond_ble, cond_ble, cond_beq]
  show (if f.infRung ≤ x % f.signWeight then _ else if f.infRung ≤ y % f.signWeight then _ else if y % f.signWeight = 0 then _ else _) = _
  by_cases hx : f.infRung ≤ x % f.signWeight
  · rw [if_pos hx]
  · rw [if_neg hx]
    by_cases hy : f.infRung ≤ y % f.signWeight
    · rw [if_pos hy]
    · rw [if_neg hy]
      by_cases h0 : y % f.signWeight = 0
      · rw [if_pos h0]
      · rw [if_neg h0, fo_eq, fo_eq, fo_eq, fo_eq, fo_eq, fo_eq, fo_eq, cond_ble, fo_eq, fo_eq, lgG_eq, lgG_eq]
        have hB : 0 < f.binade := Nat.two_pow_pos _
        have hm0 : maq f.binade (y % f.signWeight) ≠ 0 := fun h => h0 (maq_zero hB h)
        obtain ⟨mx, emx⟩ : ∃ m, maq f.binade (x % f.signWeight) = m := ⟨_, rfl⟩
        obtain ⟨my, emy⟩ : ∃ m, maq f.binade (y % f.signWeight) = m := ⟨_, rfl⟩
        have emx2 : maq f.binade (x.mod f.signWeight) = mx := emx
        have emy2 : maq f.binade (y.mod f.signWeight) = my := emy
        obtain ⟨ex, hex⟩ : ∃ e, exq f.binade (x % f.signWeight) = e := ⟨_, rfl⟩
        obtain ⟨ey, hey⟩ : ∃ e, exq f.binade (y % f.signWeight) = e := ⟨_, rfl⟩
        have hex2 : exq f.binade (x.mod f.signWeight) = ex := hex
        have hey2 : exq f.binade (y.mod f.signWeight) = ey := hey
        rw [emx2, emy2, hex2, hey2]
        rw [emy] at hm0
        obtain ⟨more, hmore⟩ : ∃ m, f.fractionBits + 2 + my.log2 - mx.log2 = m := ⟨_, rfl⟩
        have hmore2 : ((f.fractionBits.add 2).add my.log2).sub mx.log2 = more := hmore
        rw [hmore2]
        split
        · rename_i hle
          unfold Format.div
          rw [read_num f (x := x) (by omega), read_num f (x := y) (by omega), emx, emy, hex, hey]
          rw [quotient_num _ _ _ _ _ _ hm0, hmore]
          show _ = some (f.nearest _ _ _)
          rw [sgq_eq, sgq_eq]
          show some (fnear _ _ _ _ _ _ (((x / f.signWeight % 2 == 1).toNat + (y / f.signWeight % 2 == 1).toNat) % 2) _ _) = _
          rw [xor_toNat, cond_beq]
          congr 1
          have e1 : Nat.add (Nat.mul 2 (Nat.div (Nat.shiftLeft mx more) my)) (if Nat.mod (Nat.shiftLeft mx more) my = 0 then 0 else 1) = 2 * (mx <<< more / my) + (mx <<< more % my != 0).toNat := by
            show 2 * (mx <<< more / my) + (if mx <<< more % my = 0 then 0 else 1) = _
            congr 1
            by_cases c : mx <<< more % my = 0
            · rw [if_pos c, c]; rfl
            · rw [if_neg c, bne_iff_ne.2 c]; rfl
          rw [e1]
          apply fnear_eq
          have hle2 : ey + more + 1 ≤ ex + (4096 + lam) := hle
          show (f.leastPlace + (ex : Int) - (f.leastPlace + (ey : Int)) - (more : Int) - 1) = f.leastPlace + ((ex + (4096 + lam) - (ey + more + 1) : Nat) : Int) - ((4096 : Nat) : Int)
          omega
        · rfl
end
end Go.Proofs.Ytkldgcgijkfpaaa.Quick
