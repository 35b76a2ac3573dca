/- Plain law: Go's floats as rational numbers, with bounds in plain numbers. -/
import Derived.Test.YtkldgcgijkfpaaaFc
namespace Go.Proofs.Ytkldgcgijkfpaaa.Num
open Go
open Ieee (Format Datum)
open Go.Proofs.Ytkldgcgijkfpaaa.Rnd Go.Proofs.Ytkldgcgijkfpaaa.Quick

abbrev Fl (k : FloatKind) (w : Nat) : Prop := IsFin k.format w
abbrev fv (k : FloatKind) (w : Nat) : Rat := val k.format w
abbrev FR (k : FloatKind) (x : Rat) (w : Nat) : Prop := IsRnd k.format x w
/-- A bound that both kinds hold: two to the power of 100. -/
abbrev top : Rat := 1267650600228229401496703205376
theorem p2_100 : p2 100 = top := by decide +kernel
theorem fmt_facts (k : FloatKind) : 1 ≤ k.format.exponentBits ∧ k.format.leastPlace ≤ -149 ∧ 23 ≤ k.format.fractionBits ∧ 100 - k.format.leastPlace + 4 ≤ 2 ^ k.format.exponentBits := by
  cases k <;> decide +kernel
/-- Whole numbers of few digits at a place. -/
theorem rep_at (k : FloatKind) (m : Int) (e : Int) (hm : m.natAbs ≤ 16777216) (h1 : -149 ≤ e) (h2 : e ≤ 100) : Rep k.format ((m : Rat) * p2 e) := by
  obtain ⟨a, b, c, d⟩ := fmt_facts k
  refine rep_int k.format ?_ (by omega) (by omega)
  have : (2 : Nat) ^ 24 ≤ 2 ^ (k.format.fractionBits + 1) := Nat.pow_le_pow_right (by omega) (by omega)
  omega
theorem rep_nat (k : FloatKind) (m : Int) (hm : m.natAbs ≤ 16777216) : Rep k.format (m : Rat) := by
  have := rep_at k m 0 hm (by omega) (by omega)
  rw [show p2 0 = 1 from rfl, Rat.mul_one] at this
  exact this
/-- A fraction of few digits over a power of two. -/
theorem rep_frac (k : FloatKind) (m : Int) (n : Nat) (hm : m.natAbs ≤ 16777216) (hn : n ≤ 149) : Rep k.format ((m : Rat) / ((2 ^ n : Nat) : Rat)) := by
  have := rep_at k m (-(n : Int)) hm (by omega) (by omega)
  have hp : 0 < ((2 ^ n : Nat) : Rat) := Rat.natCast_pos.2 (Nat.two_pow_pos n)
  have e : p2 (n : Int) * p2 (-(n : Int)) = p2 0 := by rw [← p2_add]; congr 1; omega
  rw [p2_nat, show p2 0 = 1 from rfl] at e
  have e2 : (m : Rat) * p2 (-(n : Int)) = (m : Rat) / ((2 ^ n : Nat) : Rat) := by
    have h1 : (m : Rat) * p2 (-(n : Int)) * ((2 ^ n : Nat) : Rat) = (m : Rat) := by grind
    grind
  rw [e2] at this
  exact this
theorem lim_of {k : FloatKind} {x : Rat} (h1 : x ≤ top) (h2 : -top ≤ x) : Lim k.format x := by
  refine ⟨top, ?_, h1, h2⟩
  have := rep_at k 1 100 (by decide) (by decide) (by decide)
  rw [p2_100] at this
  have e : ((1 : Int) : Rat) * top = top := by rw [Rat.intCast_one]; exact Rat.one_mul _
  rw [e] at this
  exact this
section
variable {k : FloatKind} {x y : Nat}
theorem fadd (hx : Fl k x) (hy : Fl k y) (h1 : fv k x + fv k y ≤ top) (h2 : -top ≤ fv k x + fv k y) : ∃ r, floatBits .add k x y = some r ∧ FR k (fv k x + fv k y) r := add_rnd k.format hx hy (lim_of h1 h2)
theorem fsub (hx : Fl k x) (hy : Fl k y) (h1 : fv k x - fv k y ≤ top) (h2 : -top ≤ fv k x - fv k y) : ∃ r, floatBits .sub k x y = some r ∧ FR k (fv k x - fv k y) r := sub_rnd k.format hx hy (lim_of h1 h2)
theorem fmul (hx : Fl k x) (hy : Fl k y) (h1 : fv k x * fv k y ≤ top) (h2 : -top ≤ fv k x * fv k y) : ∃ r, floatBits .mul k x y = some r ∧ FR k (fv k x * fv k y) r := mul_rnd k.format hx hy (lim_of h1 h2)
theorem fdiv (hx : Fl k x) (hy : Fl k y) (h0 : fv k y ≠ 0) (h1 : fv k x / fv k y ≤ top) (h2 : -top ≤ fv k x / fv k y) : ∃ r, floatBits .quo k x y = some r ∧ FR k (fv k x / fv k y) r := div_rnd k.format hx hy h0 (lim_of h1 h2)
theorem fsqrt (hx : Fl .f64 x) (h0 : 0 ≤ fv .f64 x) (h1 : fv .f64 x ≤ top) : ∃ r, FloatKind.f64.format.sqrt x = some r ∧ IsRoot FloatKind.f64.format (fv .f64 x) r := by
  refine sqrt_root _ hx h0 ⟨top, ?_, by decide, ?_⟩
  · have := rep_at .f64 1 100 (by decide) (by decide) (by decide)
    rw [p2_100] at this
    have e : ((1 : Int) : Rat) * top = top := by rw [Rat.intCast_one]; exact Rat.one_mul _
    rw [e] at this
    exact this
  · have : (top : Rat) ≤ top * top := by decide +kernel
    exact Rat.le_trans h1 this
/-- A rounded number that is one of few digits. -/
theorem IsRnd.num {v : Rat} {w : Nat} (h : FR k v w) (m : Int) (n : Nat) (hv : v = (m : Rat) / ((2 ^ n : Nat) : Rat)) (hm : m.natAbs ≤ 16777216) (hn : n ≤ 149) : fv k w = v := h.exact _ (by rw [hv]; exact rep_frac k m n hm hn)
theorem IsRnd.le_int {v : Rat} {w : Nat} (h : FR k v w) (m : Int) (hm : m.natAbs ≤ 16777216) (hv : v ≤ (m : Rat)) : fv k w ≤ (m : Rat) := h.le _ (rep_nat k m hm) hv
theorem IsRnd.ge_int {v : Rat} {w : Nat} (h : FR k v w) (m : Int) (hm : m.natAbs ≤ 16777216) (hv : (m : Rat) ≤ v) : (m : Rat) ≤ fv k w := h.ge _ (rep_nat k m hm) hv
/-- Within two powers of two. -/
theorem IsRnd.within {v : Rat} {w : Nat} (h : FR k v w) (e : Int) (h1 : -149 ≤ e) (h2 : e ≤ 100) (hv : v ≤ p2 e) (hv2 : -p2 e ≤ v) : fv k w ≤ p2 e ∧ -p2 e ≤ fv k w := by
  have r := rep_at k 1 e (by decide) h1 h2
  have e1 : ((1 : Int) : Rat) * p2 e = p2 e := by rw [Rat.intCast_one]; exact Rat.one_mul _
  rw [e1] at r
  exact ⟨h.le _ r hv, h.ge _ (Rep.neg _ r) hv2⟩
end
/-- The error of a rounded single, by the number's size. -/
theorem IsRnd.near32 {v : Rat} {w : Nat} (h : FR .f32 v w) (e : Int) (h1 : -125 ≤ e) (h2 : e ≤ 100) (hv : v ≤ p2 e) (hv2 : -p2 e ≤ v) : fv .f32 w ≤ v + p2 (e - 24) ∧ v ≤ fv .f32 w + p2 (e - 24) := by
  have hp : FloatKind.f32.format.leastPlace = -149 := by decide +kernel
  have hf : FloatKind.f32.format.fractionBits = 23 := rfl
  have he : (2 : Int) ^ FloatKind.f32.format.exponentBits = 256 := by decide +kernel
  have e1 : e - 24 + (FloatKind.f32.format.fractionBits : Int) + 1 = e := by rw [hf]; omega
  exact IsRnd.near _ h (g := e - 24) (by omega) (by omega) (by rw [e1]; exact hv) (by rw [e1]; exact hv2)
theorem IsRnd.near64 {v : Rat} {w : Nat} (h : FR .f64 v w) (e : Int) (h1 : -500 ≤ e) (h2 : e ≤ 500) (hv : v ≤ p2 e) (hv2 : -p2 e ≤ v) : fv .f64 w ≤ v + p2 (e - 53) ∧ v ≤ fv .f64 w + p2 (e - 53) := by
  have hp : FloatKind.f64.format.leastPlace = -1074 := by decide +kernel
  have hf : FloatKind.f64.format.fractionBits = 52 := rfl
  have he : (2 : Int) ^ FloatKind.f64.format.exponentBits = 2048 := by decide +kernel
  have e1 : e - 53 + (FloatKind.f64.format.fractionBits : Int) + 1 = e := by rw [hf]; omega
  exact IsRnd.near _ h (g := e - 53) (by omega) (by omega) (by rw [e1]; exact hv) (by rw [e1]; exact hv2)
/-- A finite float of one kind, read and written as the other. -/
theorem fconv (j k : FloatKind) (hjk : j ≠ k) {x : Nat} (hx : Fl j x) (hl : Lim k.format (fv j x)) : ∃ r, floatToFloatBits j x k = some r ∧ FR k (fv j x) r := by
  obtain ⟨s, m, p, e1, v1⟩ := read_fin j.format hx
  have hr := nearest_rnd k.format s m p (x := fv j x) v1 hl
  unfold floatToFloatBits
  rw [if_neg hjk]
  unfold FloatKind.decode FloatKind.encode
  rw [e1]
  have hB : k.format.binade ≤ k.format.infRung := by cases k <;> decide +kernel
  have hni : (k.format.read (k.format.nearest s m p)).isInfinity = false := by
    rw [isInf_read hB]
    have : k.format.nearest s m p % k.format.signWeight < k.format.infRung := hr.fin
    exact decide_eq_false (by omega)
  refine ⟨k.format.nearest s m p, ?_, hr⟩
  show (if (k.format.read (k.format.nearest s m p)).isInfinity = true then none else some (k.format.nearest s m p)) = _
  rw [hni]
  rfl
theorem fnarrow {x : Nat} (hx : Fl .f64 x) (h1 : fv .f64 x ≤ top) (h2 : -top ≤ fv .f64 x) : ∃ r, qnarrow x = some r ∧ FR .f32 (fv .f64 x) r := by
  rw [qnarrow_eq]
  exact fconv .f64 .f32 (by decide) hx (lim_of h1 h2)
/-- A single is a double. -/
theorem rep_wide {u : Rat} (h : Rep FloatKind.f32.format u) : Rep FloatKind.f64.format u := by
  obtain ⟨r, hr, e⟩ := h
  have hi : r < 2139095040 := hr
  have hB : FloatKind.f32.format.binade = 8388608 := rfl
  have hm : rv FloatKind.f32.format r = ((maq FloatKind.f32.format.binade r : Nat) : Rat) * p2 (((exq FloatKind.f32.format.binade r : Nat) : Int) + -149) := by
    unfold rv
    rw [magV_maq, Rat.natCast_mul, ← p2_nat, Rat.mul_assoc, ← p2_add]
    rfl
  have hq : exq FloatKind.f32.format.binade r ≤ 254 := by
    have h1 : exq FloatKind.f32.format.binade r = r / 8388608 - 1 := rfl
    omega
  have hmq : maq FloatKind.f32.format.binade r ≤ 16777216 := by
    unfold maq
    rw [cond_ble, hB]
    split
    · show 8388608 + r % 8388608 ≤ _
      omega
    · omega
  have hrep : Rep FloatKind.f64.format (rv FloatKind.f32.format r) := by
    rw [hm, ← Rat.intCast_natCast]
    have hp : FloatKind.f64.format.leastPlace = -1074 := by decide +kernel
    have he : (2 : Int) ^ FloatKind.f64.format.exponentBits = 2048 := by decide +kernel
    have hf : (2 : Nat) ^ (FloatKind.f64.format.fractionBits + 1) = 9007199254740992 := by decide +kernel
    exact rep_int _ (by rw [hf]; omega) (by omega) (by omega)
  rcases e with e | e
  · rw [e]; exact hrep
  · rw [e]; exact hrep.neg
theorem fwide {x : Nat} (hx : Fl .f32 x) : ∃ r, qwide x = some r ∧ Fl .f64 r ∧ r < 18446744073709551616 ∧ fv .f64 r = fv .f32 x := by
  rw [qwide_eq]
  have hrep := rep_wide (rep_val _ hx)
  obtain ⟨r, h1, h2⟩ := fconv .f32 .f64 (by decide) hx ⟨if 0 ≤ fv .f32 x then fv .f32 x else -fv .f32 x, by split <;> first | exact hrep | exact hrep.neg, by split <;> grind, by split <;> grind⟩
  exact ⟨r, h1, h2.fin, h2.lt, h2.exact _ hrep⟩
theorem fint (k : FloatKind) (n : Int) (hn : n.natAbs ≤ 16777216) : Fl k (floatOfInt k n) ∧ fv k (floatOfInt k n) = (n : Rat) ∧ floatOfInt k n < 2 ^ k.format.width := by
  have hx : (n : Rat) = if decide (n < 0) = true then -(((n.natAbs : Nat) : Rat) * p2 0) else ((n.natAbs : Nat) : Rat) * p2 0 := by
    rw [show p2 0 = 1 from rfl, Rat.mul_one]
    by_cases h : n < 0
    · rw [decide_eq_true h, if_pos rfl, ← Rat.intCast_natCast, ← Rat.intCast_neg]
      congr 1
      omega
    · rw [decide_eq_false h, if_neg (by decide), ← Rat.intCast_natCast]
      congr 1
      omega
  have hrep := rep_nat k n hn
  have h := nearest_rnd k.format (decide (n < 0)) n.natAbs 0 hx ⟨if 0 ≤ (n : Rat) then (n : Rat) else -(n : Rat), by split <;> first | exact hrep | exact hrep.neg, by split <;> grind, by split <;> grind⟩
  exact ⟨h.fin, h.exact _ hrep, h.lt⟩
end Go.Proofs.Ytkldgcgijkfpaaa.Num
