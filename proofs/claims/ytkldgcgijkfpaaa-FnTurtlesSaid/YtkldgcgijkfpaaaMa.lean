/- Plain law: signs, absolute values and comparisons of floats as rational numbers. -/
import Derived.Test.YtkldgcgijkfpaaaFg
namespace Go.Proofs.Ytkldgcgijkfpaaa.Num
open Go
open Ieee (Format Datum)
open Go.Proofs.Ytkldgcgijkfpaaa.Rnd Go.Proofs.Ytkldgcgijkfpaaa.Quick

/-- The sign turned. -/
def ng32 (b : Nat) : Nat := b ^^^ 2147483648
def ng64 (b : Nat) : Nat := b ^^^ 9223372036854775808
/-- Without its sign. -/
def absP (x : Nat) : Nat := x &&& 9223372036854775807
section
variable (f : Format)
theorem flip_val {n w : Nat} (hn : f.signWeight = 2 ^ n) (h : IsFin f w) (hw : w < 2 * f.signWeight) : IsFin f (w ^^^ 2 ^ n) ∧ val f (w ^^^ 2 ^ n) = -val f w ∧ w ^^^ 2 ^ n < 2 * f.signWeight := by
  have e1 : (w ^^^ 2 ^ n) % f.signWeight = w % f.signWeight := by
    rw [hn, Nat.xor_mod_two_pow, Nat.mod_self, Nat.xor_zero]
  have e2 : (w ^^^ 2 ^ n) / f.signWeight = (w / f.signWeight) ^^^ 1 := by
    rw [hn, Nat.xor_div_two_pow, Nat.div_self (Nat.two_pow_pos n)]
  have hp : 0 < f.signWeight := Nat.two_pow_pos _
  have hq : w / f.signWeight < 2 := by rw [Nat.div_lt_iff_lt_mul hp]; exact hw
  refine ⟨by unfold IsFin; rw [e1]; exact h, ?_, ?_⟩
  · unfold val
    rw [e1, e2]
    obtain ⟨q, eq⟩ : ∃ q, w / f.signWeight = q := ⟨_, rfl⟩
    rw [eq] at hq ⊢
    rcases q with _ | _ | q
    · simp
    · simp
    · omega
  · have hq2 : (w ^^^ 2 ^ n) / f.signWeight < 2 := by
      rw [e2]
      obtain ⟨q, eq⟩ : ∃ q, w / f.signWeight = q := ⟨_, rfl⟩
      rw [eq] at hq ⊢
      rcases q with _ | _ | q
      · decide
      · decide
      · omega
    have := (Nat.div_lt_iff_lt_mul hp).1 hq2
    exact this
theorem abs_val {n w : Nat} (hn : f.signWeight = 2 ^ n) (h : IsFin f w) : IsFin f (w % 2 ^ n) ∧ val f (w % 2 ^ n) = (if 0 ≤ val f w then val f w else -val f w) := by
  have hp : 0 < f.signWeight := Nat.two_pow_pos _
  have e1 : w % f.signWeight % f.signWeight = w % f.signWeight := Nat.mod_mod _ _
  have e2 : w % f.signWeight / f.signWeight = 0 := Nat.div_eq_of_lt (Nat.mod_lt _ hp)
  rw [← hn]
  refine ⟨by unfold IsFin; rw [e1]; exact h, ?_⟩
  have h0 := rv_nonneg f (w % f.signWeight)
  unfold val
  rw [e1, e2]
  simp only [Nat.zero_mod, Nat.zero_ne_one, if_false]
  split
  · first | rfl | (split <;> grind)
  · first | rfl | (split <;> grind)
end
theorem ng32_num {b : Nat} (h : Fl .f32 b) (hb : b < 4294967296) : Fl .f32 (ng32 b) ∧ fv .f32 (ng32 b) = -fv .f32 b ∧ ng32 b < 4294967296 := flip_val FloatKind.f32.format (n := 31) rfl h hb
theorem ng64_num {b : Nat} (h : Fl .f64 b) (hb : b < 18446744073709551616) : Fl .f64 (ng64 b) ∧ fv .f64 (ng64 b) = -fv .f64 b ∧ ng64 b < 18446744073709551616 := flip_val FloatKind.f64.format (n := 63) rfl h hb
theorem absP_num {b : Nat} (h : Fl .f64 b) : Fl .f64 (absP b) ∧ fv .f64 (absP b) = (if 0 ≤ fv .f64 b then fv .f64 b else -fv .f64 b) ∧ absP b < 9223372036854775808 := by
  have e : absP b = b % 2 ^ 63 := Nat.and_two_pow_sub_one_eq_mod b 63
  rw [e]
  have := abs_val FloatKind.f64.format (n := 63) rfl h
  exact ⟨this.1, this.2, Nat.mod_lt _ (by decide)⟩
/-- What the comparisons of two finite floats say. -/
theorem cmp_lt' {k : FloatKind} {x y : Nat} (hx : Fl k x) (hy : Fl k y) (h : fv k x < fv k y) : k.format.order x y = some .lt := by
  obtain ⟨o, e, h1, h2, h3⟩ := order_fin k.format hx hy
  rw [e, h1.2 h]
theorem cmp_eq' {k : FloatKind} {x y : Nat} (hx : Fl k x) (hy : Fl k y) (h : fv k x = fv k y) : k.format.order x y = some .eq := by
  obtain ⟨o, e, h1, h2, h3⟩ := order_fin k.format hx hy
  rw [e, h2.2 h]
theorem cmp_gt' {k : FloatKind} {x y : Nat} (hx : Fl k x) (hy : Fl k y) (h : fv k y < fv k x) : k.format.order x y = some .gt := by
  obtain ⟨o, e, h1, h2, h3⟩ := order_fin k.format hx hy
  rw [e, h3.2 h]
theorem le_cmp {k : FloatKind} {x y : Nat} (hx : Fl k x) (hy : Fl k y) (h : fv k x ≤ fv k y) : (k.format.order x y == some .lt || k.format.order x y == some .eq) = true ∧ (k.format.order x y == some .gt) = false := by
  by_cases c : fv k x < fv k y
  · rw [cmp_lt' hx hy c]; decide
  · rw [cmp_eq' hx hy (by grind)]; decide
theorem not_le_cmp {k : FloatKind} {x y : Nat} (hx : Fl k x) (hy : Fl k y) (h : fv k y < fv k x) : (k.format.order x y == some .lt || k.format.order x y == some .eq) = false := by
  rw [cmp_gt' hx hy h]; decide
theorem lt_cmp {k : FloatKind} {x y : Nat} (hx : Fl k x) (hy : Fl k y) (h : fv k x < fv k y) : (k.format.order x y == some .lt) = true ∧ (k.format.order x y == some .gt) = false ∧ (k.format.order x y == some .eq) = false := by
  rw [cmp_lt' hx hy h]; decide
theorem not_lt_cmp {k : FloatKind} {x y : Nat} (hx : Fl k x) (hy : Fl k y) (h : fv k y ≤ fv k x) : (k.format.order x y == some .lt) = false := by
  by_cases c : fv k y < fv k x
  · rw [cmp_gt' hx hy c]; decide
  · rw [cmp_eq' hx hy (by grind)]; decide
/-- The product of two singles is a double. -/
theorem rep_prod {u v : Rat} (hu : Rep FloatKind.f32.format u) (hv : Rep FloatKind.f32.format v) : Rep FloatKind.f64.format (u * v) := by
  have key : ∀ r s : Nat, r < 2139095040 → s < 2139095040 → Rep FloatKind.f64.format (rv FloatKind.f32.format r * rv FloatKind.f32.format s) := by
    intro r s hr hs
    have hB : FloatKind.f32.format.binade = 8388608 := rfl
    have hm : ∀ r, rv FloatKind.f32.format r = ((maq FloatKind.f32.format.binade r : Nat) : Rat) * p2 (((exq FloatKind.f32.format.binade r : Nat) : Int) + -149) := by
      intro r
      unfold rv
      rw [magV_maq, Rat.natCast_mul, ← p2_nat, Rat.mul_assoc, ← p2_add]
      rfl
    have hq : ∀ r, r < 2139095040 → exq FloatKind.f32.format.binade r ≤ 254 := by
      intro r hr
      have h1 : exq FloatKind.f32.format.binade r = r / 8388608 - 1 := rfl
      omega
    have hmq : ∀ r, maq FloatKind.f32.format.binade r ≤ 16777216 := by
      intro r
      unfold maq
      rw [cond_ble, hB]
      split
      · show 8388608 + r % 8388608 ≤ _
        omega
      · omega
    have q1 := hq r hr
    have q2 := hq s hs
    have m1 := hmq r
    have m2 := hmq s
    rw [hm r, hm s]
    obtain ⟨a, ha⟩ : ∃ a, maq FloatKind.f32.format.binade r = a := ⟨_, rfl⟩
    obtain ⟨b, hb⟩ : ∃ b, maq FloatKind.f32.format.binade s = b := ⟨_, rfl⟩
    obtain ⟨e, he⟩ : ∃ e : Int, ((exq FloatKind.f32.format.binade r : Nat) : Int) + -149 = e := ⟨_, rfl⟩
    obtain ⟨g, hg⟩ : ∃ g : Int, ((exq FloatKind.f32.format.binade s : Nat) : Int) + -149 = g := ⟨_, rfl⟩
    rw [ha, hb, he, hg]
    rw [ha] at m1
    rw [hb] at m2
    have e1 : (a : Rat) * p2 e * ((b : Rat) * p2 g) = (((a * b : Nat) : Int) : Rat) * p2 (e + g) := by
      rw [Rat.intCast_natCast, Rat.natCast_mul, p2_add]
      grind
    rw [e1]
    have hp : FloatKind.f64.format.leastPlace = -1074 := by decide +kernel
    have he2 : (2 : Int) ^ FloatKind.f64.format.exponentBits = 2048 := by decide +kernel
    have hf : (2 : Nat) ^ (FloatKind.f64.format.fractionBits + 1) = 9007199254740992 := by decide +kernel
    have hab : a * b ≤ 16777216 * 16777216 := Nat.mul_le_mul m1 m2
    exact rep_int _ (by rw [hf]; omega) (by omega) (by omega)
  obtain ⟨r, hr, er⟩ := hu
  obtain ⟨s, hs, es⟩ := hv
  have := key r s hr hs
  rcases er with er | er <;> rcases es with es | es <;> rw [er, es]
  · exact this
  · have h2 := this.neg
    have e : rv FloatKind.f32.format r * -rv FloatKind.f32.format s = -(rv FloatKind.f32.format r * rv FloatKind.f32.format s) := by grind
    rw [e]; exact h2
  · have h2 := this.neg
    have e : -rv FloatKind.f32.format r * rv FloatKind.f32.format s = -(rv FloatKind.f32.format r * rv FloatKind.f32.format s) := by grind
    rw [e]; exact h2
  · have e : -rv FloatKind.f32.format r * -rv FloatKind.f32.format s = rv FloatKind.f32.format r * rv FloatKind.f32.format s := by grind
    rw [e]; exact this
/-- Rounded first to a double and then to a single. -/
theorem IsRnd.twice {x : Rat} {w r : Nat} (h : FR .f64 x w) (h2 : FR .f32 (fv .f64 w) r) : FR .f32 x r :=
  ⟨h2.fin, h2.lt, fun u hu hx => h2.le u hu (h.le u (rep_wide hu) hx), fun u hu hx => h2.ge u hu (h.ge u (rep_wide hu) hx)⟩
theorem IsRoot.twice {x : Rat} {p w r : Nat} (h : FR .f64 x p) (h2 : IsRoot FloatKind.f64.format (fv .f64 p) w) (h3 : FR .f32 (fv .f64 w) r) : IsRoot FloatKind.f32.format x r := by
  refine ⟨h3.fin, h3.lt, h3.ge 0 ?_ h2.nonneg, ?_, ?_⟩
  · exact rep_nat .f32 0 (by decide)
  · intro u hu hu0 hx
    exact h3.le u hu (h2.le u (rep_wide hu) hu0 (h.le _ (rep_prod hu hu) hx))
  · intro u hu hu0 hx
    exact h3.ge u hu (h2.ge u (rep_wide hu) hu0 (h.ge _ (rep_prod hu hu) hx))
end Go.Proofs.Ytkldgcgijkfpaaa.Num
