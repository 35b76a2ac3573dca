/- Plain law: single words without a sign stand to each other as whole numbers do; lengths have no sign. Conditions: none. -/
import Derived.Test.YtbpgbplepebcjaaMd
import Derived.Test.YtbpgbplepebcjaaNrm
namespace Go.Proofs.Ytbpgbplepebcjaa
open Go.RowKit
open Num Quick Rnd

theorem inf32 : FloatKind.f32.format.infRung = 2139095040 := by decide +kernel
theorem sw32 : FloatKind.f32.format.signWeight = 2147483648 := by decide +kernel
theorem rv_inj {a b : Nat} (ha : a < 2139095040) (hb : b < 2139095040) (h : rv FloatKind.f32.format a = rv FloatKind.f32.format b) : a = b := by
  unfold rv at h
  have hp := p2_pos FloatKind.f32.format.leastPlace
  have e : (magV FloatKind.f32.format a : Rat) = (magV FloatKind.f32.format b : Rat) := Rat.le_antisymm (rat_cancel hp (by rw [h]; exact Rat.le_refl)) (rat_cancel hp (by rw [h]; exact Rat.le_refl))
  have e2 : magV FloatKind.f32.format a = magV FloatKind.f32.format b := Rat.natCast_inj.1 e
  rw [← rungP_self FloatKind.f32.format (r := a) (by rw [inf32]; omega), e2, rungP_self FloatKind.f32.format (r := b) (by rw [inf32]; omega)]
/-- A word without a sign. -/
theorem plus_val {x : Nat} (h : x < 2139095040) : Fl .f32 x ∧ Num.fv .f32 x = rv FloatKind.f32.format x := by
  have e1 : x % FloatKind.f32.format.signWeight = x := by rw [sw32]; omega
  have e2 : x / FloatKind.f32.format.signWeight % 2 = 0 := by rw [sw32]; omega
  refine ⟨?_, ?_⟩
  · show x % FloatKind.f32.format.signWeight < FloatKind.f32.format.infRung
    rw [e1, inf32]; exact h
  · show val FloatKind.f32.format x = _
    unfold val
    rw [e1, e2]
    rfl
theorem plus_nn {x : Nat} (h : x < 2139095040) : 0 ≤ Num.fv .f32 x := by rw [(plus_val h).2]; exact rv_nonneg _ _
theorem plus_le {x y : Nat} (hx : x < 2139095040) (hy : y < 2139095040) : Num.fv .f32 x ≤ Num.fv .f32 y ↔ x ≤ y := by
  rw [(plus_val hx).2, (plus_val hy).2]
  constructor
  · intro h
    rcases Nat.le_total x y with c | c
    · exact c
    · have := rv_mono FloatKind.f32.format c
      have e : rv FloatKind.f32.format x = rv FloatKind.f32.format y := Rat.le_antisymm h this
      exact Nat.le_of_eq (rv_inj hx hy e)
  · exact fun h => rv_mono _ h
theorem plus_lt {x y : Nat} (hx : x < 2139095040) (hy : y < 2139095040) : Num.fv .f32 x < Num.fv .f32 y ↔ x < y := by
  have h := plus_le hy hx
  constructor
  · intro c
    exact Nat.lt_of_not_le fun c2 => by have := h.2 c2; grind
  · intro c
    have : ¬ Num.fv .f32 y ≤ Num.fv .f32 x := fun c2 => absurd (h.1 c2) (by omega)
    grind
theorem ord_lt {x y : Nat} (hx : x < 2139095040) (hy : y < 2139095040) : (FloatKind.f32.format.order x y == some .lt) = decide (x < y) := by
  by_cases c : x < y
  · rw [cmp_lt' (plus_val hx).1 (plus_val hy).1 ((plus_lt hx hy).2 c), decide_eq_true c]; rfl
  · rw [decide_eq_false c]
    exact not_lt_cmp (plus_val hx).1 (plus_val hy).1 ((plus_le hy hx).2 (by omega))
theorem plus_max {x y : Nat} (hx : x < 2139095040) (hy : y < 2139095040) : ∀ (ts : Array TypeId) (t : TypeId) (w : World), (Builtin.max_ ts t #[.float .f32 x, .float .f32 y]).run Try.prog w = .ok (.float .f32 (max x y)) w := by
  obtain ⟨r, hr, h1, h2, h3⟩ := fmax_num (plus_val hx).1 (plus_val hy).1
  have hri : r < 2139095040 := by rcases hr with e | e <;> rw [e] <;> assumption
  have a1 := (plus_le hx hri).1 h1
  have a2 := (plus_le hy hri).1 h2
  have e : r = max x y := by rcases hr with e | e <;> omega
  rw [e] at h3
  exact h3
/-- A word that stands for nothing. -/
theorem zero_word {x : Nat} (h : Fl .f32 x) (hl : x < 4294967296) (h0 : Num.fv .f32 x = 0) : x = 0 ∨ x = 2147483648 := by
  have h' : x % FloatKind.f32.format.signWeight < FloatKind.f32.format.infRung := h
  have h0' : val FloatKind.f32.format x = 0 := h0
  rw [sw32, inf32] at h'
  have e : rv FloatKind.f32.format (x % 2147483648) = rv FloatKind.f32.format 0 := by
    rw [rv_zero]
    unfold val at h0'
    rw [sw32] at h0'
    split at h0'
    · grind
    · exact h0'
  have := rv_inj h' (by omega) e
  omega
/-- A word that stands for no less than nothing, and not for nothing, has no sign. -/
theorem pos_word {x : Nat} (h : Fl .f32 x) (hl : x < 4294967296) (h0 : 0 < Num.fv .f32 x) : x < 2139095040 := by
  have h' : x % FloatKind.f32.format.signWeight < FloatKind.f32.format.infRung := h
  have h0' : 0 < val FloatKind.f32.format x := h0
  rw [sw32, inf32] at h'
  unfold val at h0'
  rw [sw32] at h0'
  split at h0'
  · have := rv_nonneg FloatKind.f32.format (x % 2147483648); grind
  · omega
theorem long_chain {a b x y p q u s r : Nat} (h1 : qwide a = some x) (h2 : qwide b = some y) (h3 : floatBits .mul .f64 x x = some p) (h4 : floatBits .mul .f64 y y = some q) (h5 : floatBits .add .f64 p q = some u) (h6 : FloatKind.f64.format.sqrt u = some s) (h7 : qnarrow s = some r) :
    (∀ w : World, Calls Try.prog 55 #[.complex .f32 a b] w fun e w' => e = .returned (.float .f32 r) ∧ w' = w) ∧ (∀ w : World, Calls Try.prog 17 #[.complex .f32 a b] w fun e w' => e = .returned (.float .f32 r) ∧ w' = w) := by
  have S1 := Lib.hid (fun w => sqrt_w w h6)
  have k1 := rNarrow h7
  have C1 := Lib.hid (fun w => power_w w h1 h2 h3 h4 h5)
  have g1 := rWide h1
  have g2 := rWide h2
  have g3 := r64 h3
  have g4 := r64 h4
  have g5 := r64 h5
  clear h1 h2 h3 h4 h5 h6 h7
  refine ⟨fun w => ?_, fun w => ?_⟩
  · clear g1 g2 g3 g4 g5
    go_enter Try.func55, Try.ntmps55
    go_wp2_with fail
    refine (C1.out _).mono ?_
    rintro e w1 ⟨rfl, rfl⟩
    go_wp2_with fail
    refine (S1.out _).mono ?_
    rintro e w1 ⟨rfl, rfl⟩
    go_wp2
    go_ret
    exact ⟨rfl, rfl⟩
  · have P1 : ∀ w : World, Calls Try.prog 94 #[.complex .f32 a b] w fun e w' => e = .returned (.float .f64 u) ∧ w' = w := by
      intro w
      clear S1 C1
      go_enter Try.func94, Try.ntmps94
      go_wp2
      go_ret
      exact ⟨rfl, rfl⟩
    have N1 : ∀ w : World, Calls Try.prog 93 #[.float .f64 s] w fun e w' => e = .returned (.float .f32 r) ∧ w' = w := by
      intro w
      clear S1 C1 P1
      go_enter Try.func93, Try.ntmps93
      go_wp2
      go_ret
      exact ⟨rfl, rfl⟩
    have L1 : ∀ w : World, Calls Try.prog 61 #[.complex .f32 a b] w fun e w' => e = .returned (.float .f32 r) ∧ w' = w := by
      intro w
      have P1 := Lib.hid P1
      have N1 := Lib.hid N1
      clear g1 g2 g3 g4 g5 C1
      go_enter Try.func61, Try.ntmps61
      go_wp2_with fail
      refine (P1.out _).mono ?_
      rintro e w1 ⟨rfl, rfl⟩
      go_wp2_with fail
      refine (S1.out _).mono ?_
      rintro e w1 ⟨rfl, rfl⟩
      go_wp2_with fail
      refine (N1.out _).mono ?_
      rintro e w1 ⟨rfl, rfl⟩
      go_wp2
      go_ret
      exact ⟨rfl, rfl⟩
    have L1 := Lib.hid L1
    clear g1 g2 g3 g4 g5 C1 P1 N1 S1 k1
    go_enter Try.func17, Try.ntmps17
    go_wp2_with fail
    refine (L1.out _).mono ?_
    rintro e w1 ⟨rfl, rfl⟩
    go_wp2
    go_ret
    exact ⟨rfl, rfl⟩
/-- The length of a number: a word without a sign. -/
structure LongW (a b r : Nat) : Prop where
  im : ∀ w : World, Calls Try.prog 55 #[.complex .f32 a b] w fun e w' => e = .returned (.float .f32 r) ∧ w' = w
  sp : ∀ w : World, Calls Try.prog 17 #[.complex .f32 a b] w fun e w' => e = .returned (.float .f32 r) ∧ w' = w
  lt : r < 2139095040
  root : IsRoot FloatKind.f32.format (Num.fv .f32 a * Num.fv .f32 a + Num.fv .f32 b * Num.fv .f32 b) r
theorem sq_zero {x y : Rat} (h : x * x + y * y ≤ 0) : x = 0 ∧ y = 0 := by
  have a := rsq_nn x
  have b := rsq_nn y
  have hx : x * x = 0 := by grind
  have hy : y * y = 0 := by grind
  exact ⟨by grind, by grind⟩
theorem long_w {a b : Nat} (ha : Fl .f32 a) (hb : Fl .f32 b) (hal : a < 4294967296) (hbl : b < 4294967296) (ia : InR (Num.fv .f32 a) mid) (ib : InR (Num.fv .f32 b) mid) : ∃ r, LongW a b r := by
  obtain ⟨x, y, p, q, u, s, r, h1, h2, h3, h4, h5, h6, h7, h8⟩ := flong ha hb ia ib
  have LC := long_chain h1 h2 h3 h4 h5 h6 h7
  have hrl : r < 4294967296 := by
    have := h8.lt
    have e : (2 : Nat) ^ FloatKind.f32.format.width = 4294967296 := by decide +kernel
    rw [e] at this; exact this
  refine ⟨r, LC.1, LC.2, ?_, h8⟩
  by_cases h0 : 0 < Num.fv .f32 r
  · exact pos_word h8.fin hrl h0
  · have hz : Num.fv .f32 a * Num.fv .f32 a + Num.fv .f32 b * Num.fv .f32 b ≤ 0 := by
      by_cases c : 0 < Num.fv .f32 a * Num.fv .f32 a + Num.fv .f32 b * Num.fv .f32 b
      · exfalso
        have key : ∀ z : Nat, Fl .f32 z → Num.fv .f32 z ≠ 0 → Num.fv .f32 z * Num.fv .f32 z ≤ Num.fv .f32 a * Num.fv .f32 a + Num.fv .f32 b * Num.fv .f32 b → False := by
          intro z hz h1 h2
          have rz : Rep FloatKind.f32.format (Num.fv .f32 z) := rep_val _ hz
          rcases (Rat.le_total : 0 ≤ Num.fv .f32 z ∨ Num.fv .f32 z ≤ 0) with c2 | c2
          · have := h8.ge _ rz c2 h2
            have e : Num.fv .f32 z ≤ Num.fv .f32 r := this
            grind
          · have := h8.ge _ rz.neg (by grind) (by grind)
            have e : -Num.fv .f32 z ≤ Num.fv .f32 r := this
            grind
        have na := rsq_nn (Num.fv .f32 a)
        have nb := rsq_nn (Num.fv .f32 b)
        by_cases c3 : Num.fv .f32 a = 0
        · exact key b hb (by intro e; rw [c3, e] at c; grind) (by grind)
        · exact key a ha c3 (by grind)
      · grind
    obtain ⟨za, zb⟩ := sq_zero hz
    have zr : ∀ a b, (a = 0 ∨ a = 2147483648) → (b = 0 ∨ b = 2147483648) → ∀ {x y p q u s r : Nat}, qwide a = some x → qwide b = some y → floatBits .mul .f64 x x = some p → floatBits .mul .f64 y y = some q → floatBits .add .f64 p q = some u → FloatKind.f64.format.sqrt u = some s → qnarrow s = some r → r = 0 := by
      intro a b h1 h2 x y p q u s r e1 e2 e3 e4 e5 e6 e7
      have q0 : qwide 0 = some 0 := by decide +kernel
      have q1 : qwide 2147483648 = some 9223372036854775808 := by decide +kernel
      have m0 : floatBits .mul .f64 0 0 = some 0 := by decide +kernel
      have m1 : floatBits .mul .f64 9223372036854775808 9223372036854775808 = some 0 := by decide +kernel
      have a0 : floatBits .add .f64 0 0 = some 0 := by decide +kernel
      have s0 : FloatKind.f64.format.sqrt 0 = some 0 := by decide +kernel
      have n0 : qnarrow 0 = some 0 := by decide +kernel
      have hp : p = 0 := by
        rcases h1 with rfl | rfl
        · rw [q0] at e1; injection e1 with e1; subst e1; rw [m0] at e3; injection e3 with e3; exact e3.symm
        · rw [q1] at e1; injection e1 with e1; subst e1; rw [m1] at e3; injection e3 with e3; exact e3.symm
      have hq : q = 0 := by
        rcases h2 with rfl | rfl
        · rw [q0] at e2; injection e2 with e2; subst e2; rw [m0] at e4; injection e4 with e4; exact e4.symm
        · rw [q1] at e2; injection e2 with e2; subst e2; rw [m1] at e4; injection e4 with e4; exact e4.symm
      subst hp hq
      rw [a0] at e5; injection e5 with e5; subst e5
      rw [s0] at e6; injection e6 with e6; subst e6
      rw [n0] at e7; injection e7 with e7; exact e7.symm
    have := zr a b (zero_word ha hal za) (zero_word hb hbl zb) h1 h2 h3 h4 h5 h6 h7
    omega
end Go.Proofs.Ytbpgbplepebcjaa
