/- Plain law: quick forms of Go's operations on both kinds of floats, equal to the model's. -/
import Derived.Test.YtkldgcgijkfpaaaFn
namespace Go.Proofs.Ytkldgcgijkfpaaa.Quick
open Go
open Ieee (Format Datum)
open Go.Proofs.Ytkldgcgijkfpaaa.Rnd

/-- An operation. -/
def qbits (op : BinOp) (k : FloatKind) (x y : Nat) : Option Nat :=
  match k with
  | .f64 => match op with
    | .add => addN 52 4503599627370496 9223372036854775808 2431943798780067840 6755399441055744000 (fun _ => faddP 52 4503599627370496 9218868437227405312 9223372036854775808 (fun _ => FloatKind.f64.format.add x y) 0 x y) 0 x y
    | .sub => addN 52 4503599627370496 9223372036854775808 2431943798780067840 6755399441055744000 (fun _ => faddP 52 4503599627370496 9218868437227405312 9223372036854775808 (fun _ => FloatKind.f64.format.sub x y) 1 x y) 1 x y
    | .mul => mulN 52 4503599627370496 9223372036854775808 1074 2431943798780067840 6755399441055744000 (fun _ => fmulP 52 4503599627370496 9218868437227405312 9223372036854775808 1074 (fun _ => FloatKind.f64.format.mul x y) x y) x y
    | .quo => divN 52 4503599627370496 9223372036854775808 1074 2431943798780067840 6755399441055744000 (fun _ => fdivP 52 4503599627370496 9218868437227405312 9223372036854775808 1074 (fun _ => FloatKind.f64.format.div x y) x y) x y
    | _ => none
  | .f32 => match op with
    | .add => addN 23 8388608 2147483648 637534208 1593835520 (fun _ => faddP 23 8388608 2139095040 2147483648 (fun _ => FloatKind.f32.format.add x y) 0 x y) 0 x y
    | .sub => addN 23 8388608 2147483648 637534208 1593835520 (fun _ => faddP 23 8388608 2139095040 2147483648 (fun _ => FloatKind.f32.format.sub x y) 1 x y) 1 x y
    | .mul => mulN 23 8388608 2147483648 149 637534208 1593835520 (fun _ => fmulP 23 8388608 2139095040 2147483648 149 (fun _ => FloatKind.f32.format.mul x y) x y) x y
    | .quo => divN 23 8388608 2147483648 149 637534208 1593835520 (fun _ => fdivP 23 8388608 2139095040 2147483648 149 (fun _ => FloatKind.f32.format.div x y) x y) x y
    | _ => none
theorem kf64 : FloatKind.f64.format.fractionBits = 52 ∧ FloatKind.f64.format.binade = 4503599627370496 ∧ FloatKind.f64.format.infRung = 9218868437227405312 ∧ FloatKind.f64.format.signWeight = 9223372036854775808 ∧ FloatKind.f64.format.leastPlace = -((1074 : Nat) : Int) := by decide +kernel
theorem kf32 : FloatKind.f32.format.fractionBits = 23 ∧ FloatKind.f32.format.binade = 8388608 ∧ FloatKind.f32.format.infRung = 2139095040 ∧ FloatKind.f32.format.signWeight = 2147483648 ∧ FloatKind.f32.format.leastPlace = -((149 : Nat) : Int) := by decide +kernel
theorem qbits_eq (op : BinOp) (k : FloatKind) (x y : Nat) : qbits op k x y = floatBits op k x y := by
  cases k with
  | f32 =>
    obtain ⟨a, b, c, d, e⟩ := kf32
    have hx : FloatKind.f32.format.exponentBits = 8 := rfl
    cases op <;> try rfl
    · have h0 := faddP_eq FloatKind.f32.format x y
      have := addN_eq FloatKind.f32.format (lo := 76) (hi := 190) rfl rfl (by rw [a]; omega) (by rw [hx]; omega) false (fun _ => faddP FloatKind.f32.format.fractionBits FloatKind.f32.format.binade FloatKind.f32.format.infRung FloatKind.f32.format.signWeight (fun _ => FloatKind.f32.format.add x y) 0 x y) x y h0
      rw [a, b, c, d] at this
      exact this
    · have h0 := fsubP_eq FloatKind.f32.format x y
      have := addN_eq FloatKind.f32.format (lo := 76) (hi := 190) rfl rfl (by rw [a]; omega) (by rw [hx]; omega) true (fun _ => faddP FloatKind.f32.format.fractionBits FloatKind.f32.format.binade FloatKind.f32.format.infRung FloatKind.f32.format.signWeight (fun _ => FloatKind.f32.format.sub x y) 1 x y) x y h0
      rw [a, b, c, d] at this
      exact this
    · have h0 := fmulP_eq FloatKind.f32.format e x y
      have := mulN_eq FloatKind.f32.format (lo := 76) (hi := 190) e rfl rfl (by omega) (by rw [a, hx]; omega) (by omega) (by rw [hx]; omega) (fun _ => fmulP FloatKind.f32.format.fractionBits FloatKind.f32.format.binade FloatKind.f32.format.infRung FloatKind.f32.format.signWeight 149 (fun _ => FloatKind.f32.format.mul x y) x y) x y h0
      rw [a, b, c, d] at this
      exact this
    · have h0 := fdivP_eq FloatKind.f32.format e x y
      have := divN_eq FloatKind.f32.format (lo := 76) (hi := 190) e rfl rfl (by rw [a]; omega) (by rw [a, hx]; omega) (by omega) (by rw [hx]; omega) (fun _ => fdivP FloatKind.f32.format.fractionBits FloatKind.f32.format.binade FloatKind.f32.format.infRung FloatKind.f32.format.signWeight 149 (fun _ => FloatKind.f32.format.div x y) x y) x y h0
      rw [a, b, c, d] at this
      exact this
  | f64 =>
    obtain ⟨a, b, c, d, e⟩ := kf64
    have hx : FloatKind.f64.format.exponentBits = 11 := rfl
    cases op <;> try rfl
    · have h0 := faddP_eq FloatKind.f64.format x y
      have := addN_eq FloatKind.f64.format (lo := 540) (hi := 1500) rfl rfl (by rw [a]; omega) (by rw [hx]; omega) false (fun _ => faddP FloatKind.f64.format.fractionBits FloatKind.f64.format.binade FloatKind.f64.format.infRung FloatKind.f64.format.signWeight (fun _ => FloatKind.f64.format.add x y) 0 x y) x y h0
      rw [a, b, c, d] at this
      exact this
    · have h0 := fsubP_eq FloatKind.f64.format x y
      have := addN_eq FloatKind.f64.format (lo := 540) (hi := 1500) rfl rfl (by rw [a]; omega) (by rw [hx]; omega) true (fun _ => faddP FloatKind.f64.format.fractionBits FloatKind.f64.format.binade FloatKind.f64.format.infRung FloatKind.f64.format.signWeight (fun _ => FloatKind.f64.format.sub x y) 1 x y) x y h0
      rw [a, b, c, d] at this
      exact this
    · have h0 := fmulP_eq FloatKind.f64.format e x y
      have := mulN_eq FloatKind.f64.format (lo := 540) (hi := 1500) e rfl rfl (by omega) (by rw [a, hx]; omega) (by omega) (by rw [hx]; omega) (fun _ => fmulP FloatKind.f64.format.fractionBits FloatKind.f64.format.binade FloatKind.f64.format.infRung FloatKind.f64.format.signWeight 1074 (fun _ => FloatKind.f64.format.mul x y) x y) x y h0
      rw [a, b, c, d] at this
      exact this
    · have h0 := fdivP_eq FloatKind.f64.format e x y
      have := divN_eq FloatKind.f64.format (lo := 540) (hi := 1500) e rfl rfl (by rw [a]; omega) (by rw [a, hx]; omega) (by omega) (by rw [hx]; omega) (fun _ => fdivP FloatKind.f64.format.fractionBits FloatKind.f64.format.binade FloatKind.f64.format.infRung FloatKind.f64.format.signWeight 1074 (fun _ => FloatKind.f64.format.div x y) x y) x y h0
      rw [a, b, c, d] at this
      exact this
/-- How two floats stand to each other. -/
def qorder (k : FloatKind) (x y : Nat) : Option Ordering :=
  match k with
  | .f64 => forderP 4503599627370496 9218868437227405312 9223372036854775808 (fun _ => FloatKind.f64.format.order x y) x y
  | .f32 => forderP 8388608 2139095040 2147483648 (fun _ => FloatKind.f32.format.order x y) x y
theorem qorder_eq (k : FloatKind) (x y : Nat) : qorder k x y = k.format.order x y := by
  cases k with
  | f32 =>
    obtain ⟨a, b, c, d, e⟩ := kf32
    have := forderP_eq FloatKind.f32.format x y
    rw [b, c, d] at this
    exact this
  | f64 =>
    obtain ⟨a, b, c, d, e⟩ := kf64
    have := forderP_eq FloatKind.f64.format x y
    rw [b, c, d] at this
    exact this
/-- The square root of a double. -/
def qsqrt (x : Nat) : Option Nat := fsqrtP 52 4503599627370496 9218868437227405312 9223372036854775808 1074 (fun _ => FloatKind.f64.format.sqrt x) x
theorem qsqrt_eq (x : Nat) : qsqrt x = FloatKind.f64.format.sqrt x := by
  obtain ⟨a, b, c, d, e⟩ := kf64
  have := fsqrtP_eq FloatKind.f64.format e (by omega) x
  rw [a, b, c, d] at this
  exact this
/-- A float of one kind in the other. -/
def fconvP (fb B inf sw fb2 B2 inf2 sw2 a T : Nat) (slow : Unit → Option Nat) (x : Nat) : Option Nat :=
  fo (Nat.mod x sw) fun rx => cond (Nat.ble inf rx) (slow ())
   (fo (Nat.add (exq B rx) a) fun P => fo (maq B rx) fun m => fo (fnear fb2 B2 inf2 sw2 T fb (sgq sw x) m P) fun r =>
   cond (Nat.beq (Nat.mod r sw2) inf2) none (some r))
theorem isInf_read {g : Format} (hB : g.binade ≤ g.infRung) (w : Nat) : (g.read w).isInfinity = decide (w % g.signWeight = g.infRung) := by
  unfold Format.read
  simp only
  by_cases h1 : w % g.signWeight < g.binade
  · rw [if_pos h1, decide_eq_false (by omega)]; rfl
  · rw [if_neg h1]
    by_cases h2 : w % g.signWeight < g.infRung
    · rw [if_pos h2, decide_eq_false (by omega)]; rfl
    · rw [if_neg h2]
      by_cases h3 : w % g.signWeight = g.infRung
      · rw [if_pos h3, decide_eq_true h3]; rfl
      · rw [if_neg h3, decide_eq_false h3]; rfl
theorem fconvP_eq (j k : FloatKind) (hjk : j ≠ k) {a T : Nat} (hT : j.format.leastPlace + (a : Int) = k.format.leastPlace + T - T - T + a + (j.format.leastPlace - k.format.leastPlace + T)) (hT2 : j.format.leastPlace = k.format.leastPlace + a - T) (hB : k.format.binade ≤ k.format.infRung) (x : Nat) :
    fconvP j.format.fractionBits j.format.binade j.format.infRung j.format.signWeight k.format.fractionBits k.format.binade k.format.infRung k.format.signWeight a T (fun _ => floatToFloatBits j x k) x = floatToFloatBits j x k := by
  unfold fconvP
  rw [fo_eq, cond_ble]
  show (if j.format.infRung ≤ x % j.format.signWeight then _ else _) = _
  by_cases hx : j.format.infRung ≤ x % j.format.signWeight
  · rw [if_pos hx]
  · rw [if_neg hx, fo_eq, fo_eq, fo_eq, cond_beq]
    unfold floatToFloatBits
    rw [if_neg hjk]
    unfold FloatKind.decode FloatKind.encode
    rw [read_num j.format (x := x) (by omega)]
    simp only
    rw [isInf_read hB, sgq_eq, fnear_eq k.format T j.format.fractionBits _ _ _ (j.format.leastPlace + (exq j.format.binade (x % j.format.signWeight) : Nat)) (by
      show _ = k.format.leastPlace + ((exq j.format.binade (x.mod j.format.signWeight) + a : Nat) : Int) - T
      have : exq j.format.binade (x.mod j.format.signWeight) = exq j.format.binade (x % j.format.signWeight) := rfl
      rw [this]
      omega)]
    show (if k.format.nearest _ _ _ % k.format.signWeight = k.format.infRung then none else some (k.format.nearest _ _ _)) = _
    have hmod : x.mod j.format.signWeight = x % j.format.signWeight := rfl
    rw [hmod]
    by_cases c : k.format.nearest (x / j.format.signWeight % 2 == 1) (maq j.format.binade (x % j.format.signWeight)) (j.format.leastPlace + (exq j.format.binade (x % j.format.signWeight) : Nat)) % k.format.signWeight = k.format.infRung
    · rw [if_pos c, if_pos]
      exact decide_eq_true c
    · rw [if_neg c, if_neg]
      · rfl
      · intro h
        exact c (of_decide_eq_true h)
def qnarrow (x : Nat) : Option Nat := fconvP 52 4503599627370496 9218868437227405312 9223372036854775808 23 8388608 2139095040 2147483648 0 925 (fun _ => floatToFloatBits .f64 x .f32) x
def qwide (x : Nat) : Option Nat := fconvP 23 8388608 2139095040 2147483648 52 4503599627370496 9218868437227405312 9223372036854775808 925 0 (fun _ => floatToFloatBits .f32 x .f64) x
theorem qnarrow_eq (x : Nat) : qnarrow x = floatToFloatBits .f64 x .f32 := by
  obtain ⟨a, b, c, d, e⟩ := kf64
  obtain ⟨a', b', c', d', e'⟩ := kf32
  have := fconvP_eq .f64 .f32 (by decide) (a := 0) (T := 925) (by rw [e, e']; omega) (by rw [e, e']; omega) (by rw [b', c']; omega) x
  rw [a, b, c, d, a', b', c', d'] at this
  exact this
theorem qwide_eq (x : Nat) : qwide x = floatToFloatBits .f32 x .f64 := by
  obtain ⟨a, b, c, d, e⟩ := kf64
  obtain ⟨a', b', c', d', e'⟩ := kf32
  have := fconvP_eq .f32 .f64 (by decide) (a := 925) (T := 0) (by rw [e, e']; omega) (by rw [e, e']; omega) (by rw [b, c]; omega) x
  rw [a, b, c, d, a', b', c', d'] at this
  exact this
/-- A whole number as a double. -/
def qint (n : Int) : Nat := fnear 52 4503599627370496 9218868437227405312 9223372036854775808 0 0 (match n with | .ofNat _ => 0 | .negSucc _ => 1) (match n with | .ofNat m => m | .negSucc m => Nat.succ m) 1074
theorem qint_eq (n : Int) : qint n = floatOfInt .f64 n := by
  obtain ⟨a, b, c, d, e⟩ := kf64
  unfold qint floatOfInt FloatKind.nearest FloatKind.encode
  rw [← a, ← b, ← c, ← d]
  have hp : (0 : Int) = FloatKind.f64.format.leastPlace + ((1074 : Nat) : Int) - ((0 : Nat) : Int) := by rw [e]; omega
  cases n with
  | ofNat m =>
    have := fnear_eq FloatKind.f64.format 0 0 false m 1074 0 hp
    exact this
  | negSucc m =>
    have := fnear_eq FloatKind.f64.format 0 0 true (m + 1) 1074 0 hp
    show _ = FloatKind.f64.format.nearest (decide (Int.negSucc m < 0)) (m + 1) 0
    rw [decide_eq_true (Int.negSucc_lt_zero m)]
    exact this
/-- A double cut to a whole number, towards zero. -/
def ftoP (B inf sw lam : Nat) (slow : Unit → Option Int) (x : Nat) : Option Int :=
  fo (Nat.mod x sw) fun rx => cond (Nat.ble inf rx) (slow ())
  (fo (exq B rx) fun e => fo (cond (Nat.ble lam e) (Nat.shiftLeft (maq B rx) (Nat.sub e lam)) (Nat.shiftRight (maq B rx) (Nat.sub lam e))) fun v =>
   cond (Nat.ble 9223372036854775807 v) (slow ()) (cond (Nat.beq (sgq sw x) 0) (some (Int.ofNat v)) (some (Int.neg (Int.ofNat v)))))
theorem cut_zero (s : Bool) (n d : Nat) : Ieee.Toward.zero.cut s n d = n / 2 ^ d := by
  unfold Ieee.Toward.cut
  simp only [Bool.toNat_false, Nat.add_zero, Nat.one_shiftLeft]
  rcases Nat.lt_or_ge (n.log2 + 2) d with h | h
  · rw [Nat.min_eq_right (by omega)]
    have h0 : n < 2 ^ (n.log2 + 1) := Nat.lt_log2_self
    have h1 : 2 ^ (n.log2 + 1) ≤ 2 ^ (n.log2 + 2) := Nat.pow_le_pow_right (by omega) (by omega)
    have h2 : 2 ^ (n.log2 + 2) ≤ 2 ^ d := Nat.pow_le_pow_right (by omega) (by omega)
    rw [Nat.div_eq_of_lt (by omega), Nat.div_eq_of_lt (by omega)]
  · rw [Nat.min_eq_left h]
def qtoInt (x : Nat) : Option Int := ftoP 4503599627370496 9218868437227405312 9223372036854775808 1074 (fun _ => floatToIntVal .f64 x .i64) x
theorem qtoInt_eq (x : Nat) : qtoInt x = floatToIntVal .f64 x .i64 := by
  obtain ⟨a, b, c, d, e⟩ := kf64
  unfold qtoInt ftoP
  rw [← b, ← c, ← d, fo_eq, cond_ble]
  show (if FloatKind.f64.format.infRung ≤ x % FloatKind.f64.format.signWeight then _ else _) = _
  by_cases hx : FloatKind.f64.format.infRung ≤ x % FloatKind.f64.format.signWeight
  · rw [if_pos hx]
  · rw [if_neg hx, fo_eq, fo_eq, cond_ble, cond_ble]
    obtain ⟨ex, hex⟩ : ∃ e, exq FloatKind.f64.format.binade (x % FloatKind.f64.format.signWeight) = e := ⟨_, rfl⟩
    have hex2 : exq FloatKind.f64.format.binade (x.mod FloatKind.f64.format.signWeight) = ex := hex
    obtain ⟨m, hm⟩ : ∃ m, maq FloatKind.f64.format.binade (x % FloatKind.f64.format.signWeight) = m := ⟨_, rfl⟩
    have hm2 : maq FloatKind.f64.format.binade (x.mod FloatKind.f64.format.signWeight) = m := hm
    rw [hex2, hm2]
    obtain ⟨v, hve⟩ : ∃ v, (if 1074 ≤ ex then m.shiftLeft (ex.sub 1074) else m.shiftRight (Nat.sub 1074 ex) : Nat) = v := ⟨_, rfl⟩
    rw [hve]
    by_cases hv : 9223372036854775807 ≤ v
    · rw [if_pos hv]
    · rw [if_neg hv]
      have hlow : ((IntKind.i64).min : Int) = -9223372036854775808 := by decide +kernel
      have hhigh : ((IntKind.i64).max : Int) = 9223372036854775807 := by decide +kernel
      unfold floatToIntVal FloatKind.decode
      rw [read_num FloatKind.f64.format (x := x) (by omega), e]
      rw [hex, hm, sgq_eq]
      obtain ⟨s, hs⟩ : ∃ s, (x / FloatKind.f64.format.signWeight % 2 == 1) = s := ⟨_, rfl⟩
      rw [hs]
      have key : (Datum.number s m (-((1074 : Nat) : Int) + (ex : Int))).toInt .zero = some (if s then -((if 1074 ≤ ex then m.shiftLeft (ex.sub 1074) else m.shiftRight (Nat.sub 1074 ex) : Nat) : Int) else ((if 1074 ≤ ex then m.shiftLeft (ex.sub 1074) else m.shiftRight (Nat.sub 1074 ex) : Nat) : Int)) := by
        unfold Datum.toInt Datum.integral
        simp only [cut_zero]
        rw [signed_eq]
        by_cases h : 1074 ≤ ex
        · have e1 : (-((1074 : Nat) : Int) + (ex : Int)).toNat = ex - 1074 := by omega
          have e2 : (-(-((1074 : Nat) : Int) + (ex : Int))).toNat = 0 := by omega
          rw [if_pos h, e1, e2, Nat.pow_zero, Nat.div_one]
          rfl
        · have e1 : (-((1074 : Nat) : Int) + (ex : Int)).toNat = 0 := by omega
          have e2 : (-(-((1074 : Nat) : Int) + (ex : Int))).toNat = 1074 - ex := by omega
          rw [if_neg h, e1, e2, Nat.shiftLeft_zero]
          have : m / 2 ^ (1074 - ex) = m.shiftRight (Nat.sub 1074 ex) := (Nat.shiftRight_eq_div_pow _ _).symm
          rw [this]
      rw [key]
      rw [hve]
      rw [hlow, hhigh]
      cases s
      · simp only [Bool.false_eq_true, if_false]
        rw [if_pos (by omega)]
        rfl
      · simp only [if_true]
        rw [if_pos (by omega)]
        rfl
/-- The greatest whole number not above, as a double. -/
def floorP (x : Nat) : Option Nat := match FloatKind.f64.decode x with | .nan _ _ => none | d => some (FloatKind.f64.encode (d.integral .down))
def ffloP (fb B inf sw lam : Nat) (slow : Unit → Option Nat) (x : Nat) : Option Nat :=
  fo (Nat.mod x sw) fun rx => cond (Nat.ble inf rx) (slow ())
  (fo (exq B rx) fun e => fo (maq B rx) fun m => fo (sgq sw x) fun s =>
   cond (Nat.ble lam e) (slow ())
    (fo (Nat.sub lam e) fun d => fo (Nat.shiftLeft 1 d) fun g => fo (Nat.add (Nat.div m g) (cond (Nat.beq s 0) 0 (cond (Nat.beq (Nat.mod m g) 0) 0 1))) fun v =>
     some (fnear fb B inf sw 0 0 s v lam)))
theorem cut_down (s : Bool) (n d : Nat) : Ieee.Toward.down.cut s n d = n / 2 ^ d + (s && n % 2 ^ d != 0).toNat := by
  unfold Ieee.Toward.cut
  simp only [Nat.one_shiftLeft]
  rcases Nat.lt_or_ge (n.log2 + 2) d with h | h
  · rw [Nat.min_eq_right (by omega)]
    have h0 : n < 2 ^ (n.log2 + 1) := Nat.lt_log2_self
    have h1 : 2 ^ (n.log2 + 1) ≤ 2 ^ (n.log2 + 2) := Nat.pow_le_pow_right (by omega) (by omega)
    have h2 : 2 ^ (n.log2 + 2) ≤ 2 ^ d := Nat.pow_le_pow_right (by omega) (by omega)
    rw [Nat.div_eq_of_lt (by omega), Nat.div_eq_of_lt (by omega), Nat.mod_eq_of_lt (by omega), Nat.mod_eq_of_lt (by omega)]
  · rw [Nat.min_eq_left h]
def qfloor (x : Nat) : Option Nat := ffloP 52 4503599627370496 9218868437227405312 9223372036854775808 1074 (fun _ => floorP x) x
theorem qfloor_eq (x : Nat) : qfloor x = floorP x := by
  obtain ⟨a, b, c, d, e⟩ := kf64
  unfold qfloor ffloP
  rw [← a, ← b, ← c, ← d, fo_eq, cond_ble]
  show (if FloatKind.f64.format.infRung ≤ x % FloatKind.f64.format.signWeight then _ else _) = _
  by_cases hx : FloatKind.f64.format.infRung ≤ x % FloatKind.f64.format.signWeight
  · rw [if_pos hx]
  · rw [if_neg hx, fo_eq, fo_eq, fo_eq, cond_ble, fo_eq, fo_eq, fo_eq]
    obtain ⟨ex, hex⟩ : ∃ e, exq FloatKind.f64.format.binade (x % FloatKind.f64.format.signWeight) = e := ⟨_, rfl⟩
    have hex2 : exq FloatKind.f64.format.binade (x.mod FloatKind.f64.format.signWeight) = ex := hex
    obtain ⟨m, hm⟩ : ∃ m, maq FloatKind.f64.format.binade (x % FloatKind.f64.format.signWeight) = m := ⟨_, rfl⟩
    have hm2 : maq FloatKind.f64.format.binade (x.mod FloatKind.f64.format.signWeight) = m := hm
    rw [hex2, hm2]
    by_cases hv : 1074 ≤ ex
    · rw [if_pos hv]
    · rw [if_neg hv]
      unfold floorP FloatKind.decode FloatKind.encode
      rw [read_num FloatKind.f64.format (x := x) (by omega), e, hex, hm, sgq_eq]
      obtain ⟨s, hs⟩ : ∃ s, (x / FloatKind.f64.format.signWeight % 2 == 1) = s := ⟨_, rfl⟩
      rw [hs]
      unfold Datum.integral
      simp only [cut_down]
      have e1 : (-((1074 : Nat) : Int) + (ex : Int)).toNat = 0 := by omega
      have e2 : (-(-((1074 : Nat) : Int) + (ex : Int))).toNat = 1074 - ex := by omega
      rw [e1, e2, Nat.shiftLeft_zero]
      have e3 : Nat.add (m.div (Nat.shiftLeft 1 (Nat.sub 1074 ex))) (bif s.toNat.beq 0 then 0 else bif (m.mod (Nat.shiftLeft 1 (Nat.sub 1074 ex))).beq 0 then 0 else 1) = m / 2 ^ (1074 - ex) + (s && m % 2 ^ (1074 - ex) != 0).toNat := by
        have e4 : Nat.shiftLeft 1 (Nat.sub 1074 ex) = 2 ^ (1074 - ex) := Nat.one_shiftLeft _
        rw [e4, cond_beq, cond_beq]
        show m / 2 ^ (1074 - ex) + (if s.toNat = 0 then 0 else if m % 2 ^ (1074 - ex) = 0 then 0 else 1) = _
        congr 1
        cases s
        · rfl
        · rw [if_neg (by decide)]
          by_cases c : m % 2 ^ (1074 - ex) = 0
          · rw [if_pos c, c]; rfl
          · rw [if_neg c, bne_iff_ne.2 c]; rfl
      rw [e3]
      congr 1
      exact fnear_eq FloatKind.f64.format 0 0 s _ 1074 0 (by rw [e]; omega)
end Go.Proofs.Ytkldgcgijkfpaaa.Quick
