/- Plain law with walks: orbits of maps; whether a number is out; the first index at which an orbit is out. Conditions: a valid map whose number is at most 2 in its parts. -/
import Derived.Test.YtjmidicidgaapaaEd
namespace Go.Proofs.Ytjmidicidgaapaa
open Go.RowKit
open Num Quick
attribute [local go_sem] run_store_fl run_store_cx

open Classical in
/-- What a map makes of a number. -/
noncomputable def nxt (k : Nat) (c z : Nat × Nat) : Nat × Nat :=
  if h : k ≤ 3 ∧ Cb ((2 : Nat) : Rat) c ∧ Cb ((3 : Nat) : Rat) z ∧ W32 z then Classical.choose (once_ex k c z h.1 h.2.1 h.2.2.1 h.2.2.2) else (0, 0)
theorem nxt_ok {k : Nat} {c z : Nat × Nat} (hk : k ≤ 3) (hc : Cb ((2 : Nat) : Rat) c) (hz : Cb ((3 : Nat) : Rat) z) (hw : W32 z) :
    (∀ w : World, Calls Try.prog 25 #[mapV k c, .complex .f32 z.1 z.2] w fun e w' => e = .returned (.complex .f32 (nxt k c z).1 (nxt k c z).2) ∧ Below w.heap.size w w') ∧ Cb ((110 : Nat) : Rat) (nxt k c z) ∧ W32 (nxt k c z) := by
  have h : k ≤ 3 ∧ Cb ((2 : Nat) : Rat) c ∧ Cb ((3 : Nat) : Rat) z ∧ W32 z := ⟨hk, hc, hz, hw⟩
  have e : nxt k c z = Classical.choose (once_ex k c z h.1 h.2.1 h.2.2.1 h.2.2.2) := by unfold nxt; rw [dif_pos h]
  rw [e]
  exact Classical.choose_spec (once_ex k c z h.1 h.2.1 h.2.2.1 h.2.2.2)
theorem cb_in {B : Nat} {z : Nat × Nat} (h : Cb B z) (hB : B ≤ 16777216) : InR (Num.fv .f32 z.1) mid ∧ InR (Num.fv .f32 z.2) mid := ⟨small_mid h.2.2.1 hB, small_mid h.2.2.2 hB⟩
theorem pow_ex (z : Nat × Nat) (h : Cb ((110 : Nat) : Rat) z) : ∃ r, (∀ w : World, Calls Try.prog 47 #[.complex .f32 z.1 z.2] w fun e w' => e = .returned (.float .f32 r) ∧ w' = w) ∧ Num.FR .f32 (Num.fv .f32 z.1 * Num.fv .f32 z.1 + Num.fv .f32 z.2 * Num.fv .f32 z.2) r :=
  powerOf_num h.1 h.2.1 (cb_in h (by omega)).1 (cb_in h (by omega)).2
/- The word of a power depends on the numbers alone (not on the sign of a zero). -/
theorem rv_inj {r r' : Nat} (h : r ≤ FloatKind.f32.format.infRung) (h' : r' ≤ FloatKind.f32.format.infRung) (e : rv FloatKind.f32.format r = rv FloatKind.f32.format r') : r = r' := by
  unfold rv at e
  have hp := p2_pos FloatKind.f32.format.leastPlace
  have e2 : ((Rnd.magV FloatKind.f32.format r : Nat) : Rat) = ((Rnd.magV FloatKind.f32.format r' : Nat) : Rat) := Rat.le_antisymm (rat_cancel hp (by rw [e]; exact Rat.le_refl)) (rat_cancel hp (by rw [e]; exact Rat.le_refl))
  have e3 : Rnd.magV FloatKind.f32.format r = Rnd.magV FloatKind.f32.format r' := Nat.le_antisymm (Rat.natCast_le_natCast.1 (by rw [e2]; exact Rat.le_refl)) (Rat.natCast_le_natCast.1 (by rw [e2]; exact Rat.le_refl))
  have q1 := Rnd.rungP_self FloatKind.f32.format h
  have q2 := Rnd.rungP_self FloatKind.f32.format h'
  rw [e3] at q1
  rw [← q1, q2]
theorem read_of {a a' : Nat} (h1 : a % 2147483648 = a' % 2147483648) (h2 : a / 2147483648 % 2 = a' / 2147483648 % 2) : FloatKind.f32.format.read a = FloatKind.f32.format.read a' := by
  have hs : FloatKind.f32.format.signWeight = 2147483648 := by decide
  unfold Ieee.Format.read
  rw [hs, h1, h2]
theorem wide_of {a a' : Nat} (h : FloatKind.f32.format.read a = FloatKind.f32.format.read a') : qwide a = qwide a' := by
  rw [qwide_eq, qwide_eq]
  unfold floatToFloatBits
  rw [if_neg (by decide), if_neg (by decide)]
  unfold FloatKind.decode
  rw [h]
theorem sq_word {a a' x p : Nat} (ha : Fl .f32 a) (ha' : Fl .f32 a') (e : Num.fv .f32 a = Num.fv .f32 a') (h1 : qwide a = some x) (h2 : floatBits .mul .f64 x x = some p) : ∃ x', qwide a' = some x' ∧ floatBits .mul .f64 x' x' = some p := by
  have hs : FloatKind.f32.format.signWeight = 2147483648 := by decide
  have f1 : a % 2147483648 < FloatKind.f32.format.infRung := by have h : a % FloatKind.f32.format.signWeight < FloatKind.f32.format.infRung := ha; rwa [hs] at h
  have f2 : a' % 2147483648 < FloatKind.f32.format.infRung := by have h : a' % FloatKind.f32.format.signWeight < FloatKind.f32.format.infRung := ha'; rwa [hs] at h
  have n1 := rv_nonneg FloatKind.f32.format (a % 2147483648)
  have n2 := rv_nonneg FloatKind.f32.format (a' % 2147483648)
  have z0 := rv_zero FloatKind.f32.format
  have e' : val FloatKind.f32.format a = val FloatKind.f32.format a' := e
  unfold val at e'
  rw [hs] at e'
  have hr : rv FloatKind.f32.format (a % 2147483648) = rv FloatKind.f32.format (a' % 2147483648) := by
    split at e' <;> split at e' <;> grind
  have hm := rv_inj (Nat.le_of_lt f1) (Nat.le_of_lt f2) hr
  by_cases c : a / 2147483648 % 2 = a' / 2147483648 % 2
  · rw [wide_of (read_of hm c)] at h1
    exact ⟨x, h1, h2⟩
  · have hz : rv FloatKind.f32.format (a % 2147483648) = 0 := by
      split at e' <;> split at e' <;> first | grind | (exfalso; omega)
    have hm0 : a % 2147483648 = 0 := rv_inj (Nat.le_of_lt f1) (by decide) (by rw [hz, z0])
    have w0 : qwide 0 = some 0 := by decide +kernel
    have w1 : qwide 2147483648 = some 9223372036854775808 := by decide +kernel
    have m0 : floatBits .mul .f64 0 0 = some 0 := by rw [← qbits_eq]; decide +kernel
    have m1 : floatBits .mul .f64 9223372036854775808 9223372036854775808 = some 0 := by rw [← qbits_eq]; decide +kernel
    have key : ∀ b : Nat, b % 2147483648 = 0 → ∃ y, qwide b = some y ∧ floatBits .mul .f64 y y = some 0 := fun b hb => by
      by_cases d : b / 2147483648 % 2 = 0
      · exact ⟨0, by rw [wide_of (read_of (a' := 0) (by rw [hb]) (by rw [d]))]; exact w0, m0⟩
      · have d1 : b / 2147483648 % 2 = 2147483648 / 2147483648 % 2 := by omega
        exact ⟨9223372036854775808, by rw [wide_of (read_of (a' := 2147483648) (by rw [hb]) d1)]; exact w1, m1⟩
    obtain ⟨y, y1, y2⟩ := key a hm0
    obtain ⟨y', y3, y4⟩ := key a' (by omega)
    obtain rfl : x = y := Option.some.inj (h1.symm.trans y1)
    obtain rfl : p = 0 := Option.some.inj (h2.symm.trans y2)
    exact ⟨y', y3, y4⟩
/-- The power's word, of two numbers. -/
def PwOf (x y : Rat) (r : Nat) : Prop := ∀ a b : Nat, Fl .f32 a → Fl .f32 b → Num.fv .f32 a = x → Num.fv .f32 b = y → (∀ w : World, Calls Try.prog 47 #[.complex .f32 a b] w fun e w' => e = .returned (.float .f32 r) ∧ w' = w) ∧ Num.FR .f32 (x * x + y * y) r
theorem power_words {a b x y p q u r : Nat} (h1 : qwide a = some x) (h2 : qwide b = some y) (h3 : floatBits .mul .f64 x x = some p) (h4 : floatBits .mul .f64 y y = some q) (h5 : floatBits .add .f64 p q = some u) (h6 : qnarrow u = some r) (w : World) : Calls Try.prog 47 #[.complex .f32 a b] w fun e w' => e = .returned (.float .f32 r) ∧ w' = w := by
  have C1 := power_w w h1 h2 h3 h4 h5
  have k1 := rNarrow h6
  clear h1 h2 h3 h4 h5 h6
  go_enter Try.func47, Try.ntmps47
  go_wp2_with fail
  refine C1.mono ?_
  rintro e w1 ⟨rfl, rfl⟩
  go_wp2
  go_ret
  exact ⟨rfl, rfl⟩
theorem pwOf_ex (z : Nat × Nat) (h : Cb ((110 : Nat) : Rat) z) : ∃ r, PwOf (Num.fv .f32 z.1) (Num.fv .f32 z.2) r := by
  obtain ⟨x, y, p, q, u, h1, h2, h3, h4, h5, h6, h7, h8⟩ := fpower h.1 h.2.1 (cb_in h (by omega)).1 (cb_in h (by omega)).2
  obtain ⟨r, r1, r2⟩ := fnarrow h6.fin h8 (by have : (-top : Rat) ≤ 0 := by decide +kernel
                                              grind)
  refine ⟨r, fun a b ha hb ea eb => ?_⟩
  obtain ⟨x', e1, e2⟩ := sq_word h.1 ha ea.symm h1 h3
  obtain ⟨y', e3, e4⟩ := sq_word h.2.1 hb eb.symm h2 h4
  exact ⟨fun w => power_words e1 e3 e2 e4 h5 r1 w, h6.twice r2⟩
open Classical in
/-- The power's word. -/
noncomputable def pwV (x y : Rat) : Nat := if h : ∃ r, PwOf x y r then Classical.choose h else 0
noncomputable def pw (z : Nat × Nat) : Nat := pwV (Num.fv .f32 z.1) (Num.fv .f32 z.2)
theorem pw_ok {z : Nat × Nat} (h : Cb ((110 : Nat) : Rat) z) : (∀ w : World, Calls Try.prog 47 #[.complex .f32 z.1 z.2] w fun e w' => e = .returned (.float .f32 (pw z)) ∧ w' = w) ∧ Num.FR .f32 (Num.fv .f32 z.1 * Num.fv .f32 z.1 + Num.fv .f32 z.2 * Num.fv .f32 z.2) (pw z) := by
  have hx := pwOf_ex z h
  have e : pw z = Classical.choose hx := by unfold pw pwV; rw [dif_pos hx]
  rw [e]
  exact Classical.choose_spec hx z.1 z.2 h.1 h.2.1 rfl rfl
theorem pw_same {z z' : Nat × Nat} (h1 : Num.fv .f32 z.1 = Num.fv .f32 z'.1) (h2 : Num.fv .f32 z.2 = Num.fv .f32 z'.2) : pw z = pw z' := by unfold pw; rw [h1, h2]
open Classical in
/-- Out: the power is more than 4. -/
noncomputable def out (z : Nat × Nat) : Bool := decide (4 < Num.fv .f32 (pw z))
theorem c4f : Fl .f32 1082130432 ∧ Num.fv .f32 1082130432 = 4 := by
  refine ⟨?_, ?_⟩
  · show (1082130432 : Nat) % FloatKind.f32.format.signWeight < FloatKind.f32.format.infRung
    decide +kernel
  · unfold Num.fv val rv p2
    decide +kernel
theorem out_gt {z : Nat × Nat} (h : Cb ((110 : Nat) : Rat) z) : (FloatKind.f32.format.order (pw z) 1082130432 == some .gt) = out z := by
  have hf := (pw_ok h).2.fin
  unfold out
  by_cases c : 4 < Num.fv .f32 (pw z)
  · rw [decide_eq_true c, cmp_gt' hf c4f.1 (by rw [c4f.2]; exact c)]; decide
  · rw [decide_eq_false c]
    exact (le_cmp hf c4f.1 (by rw [c4f.2]; exact Rat.not_lt.1 c)).2
theorem sq_nn (x : Rat) : 0 ≤ x * x := rsq_nn x
theorem sq_big {x : Rat} (h : ¬ InR x 3) : 9 ≤ x * x := by
  by_cases c : x ≤ 3
  · have : x < -3 := by
      by_cases d : -3 ≤ x
      · exact absurd ⟨c, d⟩ h
      · exact Rat.not_le.1 d
    have := Rat.mul_le_mul_of_nonneg_right (show (3 : Rat) ≤ -x by grind) (show (0 : Rat) ≤ -x by grind)
    grind
  · have h3 : (3 : Rat) ≤ x := Rat.le_of_lt (Rat.not_le.1 c)
    have := Rat.mul_le_mul_of_nonneg_right h3 (show (0 : Rat) ≤ x by grind)
    grind
theorem in_of_out {z : Nat × Nat} (h : Cb ((110 : Nat) : Rat) z) (ho : out z = false) : Cb ((3 : Nat) : Rat) z := by
  have hp := (pw_ok h).2
  have h4 : ¬ 4 < Num.fv .f32 (pw z) := by unfold out at ho; simpa using ho
  have key : ¬ (9 : Rat) ≤ Num.fv .f32 z.1 * Num.fv .f32 z.1 + Num.fv .f32 z.2 * Num.fv .f32 z.2 := fun c => by
    have := hp.ge_int 9 (by decide) c
    have e : ((9 : Int) : Rat) = 9 := rfl
    rw [e] at this
    exact h4 (by grind)
  have n1 := sq_nn (Num.fv .f32 z.1)
  have n2 := sq_nn (Num.fv .f32 z.2)
  refine ⟨h.1, h.2.1, ?_, ?_⟩
  · by_cases c : InR (Num.fv .f32 z.1) 3
    · exact c
    · have := sq_big c
      exact absurd (show (9 : Rat) ≤ _ by grind) key
  · by_cases c : InR (Num.fv .f32 z.2) 3
    · exact c
    · have := sq_big c
      exact absurd (show (9 : Rat) ≤ _ by grind) key
/-- An orbit. -/
noncomputable def orb (k : Nat) (c z : Nat × Nat) : Nat → Nat × Nat
  | 0 => z
  | i + 1 => nxt k c (orb k c z i)
theorem orb_ok {k n : Nat} {c z : Nat × Nat} (hk : k ≤ 3) (hc : Cb ((2 : Nat) : Rat) c) (hz : Cb ((110 : Nat) : Rat) z) (hw : W32 z) (hn : ∀ i, i < n → out (orb k c z i) = false) : ∀ i, i ≤ n → Cb ((110 : Nat) : Rat) (orb k c z i) ∧ W32 (orb k c z i)
  | 0, _ => ⟨hz, hw⟩
  | i + 1, h => by
    obtain ⟨h1, h2⟩ := orb_ok hk hc hz hw hn i (by omega)
    exact (nxt_ok hk hc (in_of_out h1 (hn i (by omega))) h2).2
/-- The first index from i on, of m, at which o holds; the last one else. -/
def esc (o : Nat → Bool) : Nat → Nat → Nat
  | 0, i => i
  | m + 1, i => if o i then i else esc o m (i + 1)
theorem esc_ok (o : Nat → Bool) : ∀ (m i : Nat), i ≤ esc o m i ∧ esc o m i ≤ i + m ∧ (∀ j, i ≤ j → j < esc o m i → o j = false) ∧ (esc o m i < i + m → o (esc o m i) = true)
  | 0, i => ⟨Nat.le_refl _, Nat.le_refl _, fun j h1 h2 => absurd h2 (by unfold esc; omega), fun h => absurd h (by unfold esc; omega)⟩
  | m + 1, i => by
    unfold esc
    by_cases c : o i = true
    · rw [if_pos c]
      exact ⟨Nat.le_refl _, by omega, fun j h1 h2 => absurd h2 (by omega), fun _ => c⟩
    · rw [if_neg c]
      obtain ⟨a, b, d, e⟩ := esc_ok o m (i + 1)
      refine ⟨by omega, by omega, fun j h1 h2 => ?_, fun h => e (by omega)⟩
      rcases Nat.eq_or_lt_of_le h1 with rfl | h1
      · simpa using c
      · exact d j h1 h2
theorem isOut_cb {z : Nat × Nat} (h : Cb ((110 : Nat) : Rat) z) (w : World) : Calls Try.prog 42 #[.complex .f32 z.1 z.2] w fun e w' => e = .returned (.bool (out z)) ∧ w' = w := by
  obtain ⟨P, hp⟩ := pw_ok h
  have P := Lib.hid P
  have hg := out_gt h
  have hs : (FloatKind.f32.format.order (pw z) (pw z) != some .eq) = false := by rw [cmp_eq' hp.fin hp.fin rfl]; decide
  obtain ⟨a, b⟩ := z
  clear hp h
  generalize pw (a, b) = r at *
  generalize out (a, b) = o at *
  go_enter Try.func42, Try.ntmps42
  go_wp2_with fail
  refine (P.out _).mono ?_
  rintro e w1 ⟨rfl, hw1⟩
  obtain rfl := hw1.symm
  cases o
  all_goals
    go_wp2
    go_ret
    exact ⟨rfl, rfl⟩
theorem isSmall_cb {B : Nat} {z : Nat × Nat} (h : Cb (B : Rat) z) (hB : B ≤ 1000) (w : World) : Calls Try.prog 21 #[.complex .f32 z.1 z.2] w fun e w' => e = .returned (.bool true) ∧ w' = w := by
  have hb : ((B : Nat) : Rat) ≤ ((1000 : Nat) : Rat) := Rat.natCast_le_natCast.2 hB
  have e : ((1000 : Nat) : Rat) = 1000 := rfl
  rw [e] at hb
  exact isSmall_num h.1 h.2.1 (in_le h.2.2.1 hb) (in_le h.2.2.2 hb) w
end Go.Proofs.Ytjmidicidgaapaa
