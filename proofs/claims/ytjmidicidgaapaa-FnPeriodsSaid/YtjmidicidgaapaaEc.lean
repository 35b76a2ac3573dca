/- Plain law: the natural logarithm lies near to what it should. Conditions: from 1/4 to 2^12. -/
import Derived.Test.YtjmidicidgaapaaCc
import Derived.Test.YtjmidicidgaapaaMe
namespace Go.Proofs.Ytjmidicidgaapaa
open Go.RowKit
open Num Quick Circ

theorem opf_of {α : Type} {op : BinOp} {x y r : Nat} {k : Nat → Option α} (h : floatBits op .f64 x y = some r) : opf op x y k = k r := by
  unfold opf
  rw [qbits_eq, h]
  exact fo_eq r k
theorem fi_num {j : Int} (h : j.natAbs ≤ 1000) : Fl .f64 (fi j) ∧ Num.fv .f64 (fi j) = (j : Rat) := by
  have := fint .f64 j (by omega)
  exact ⟨this.1, this.2.1⟩
theorem fi_step {j : Int} (h : j.natAbs ≤ 900) : floatBits .add .f64 (fi j) one = some (fi (j + 1)) ∧ floatBits .sub .f64 (fi j) one = some (fi (j - 1)) := by
  have key : ∀ m : Nat, m ≤ 1800 → (floatBits .add .f64 (fi ((m : Int) - 900)) one = some (fi ((m : Int) - 900 + 1)) ∧ floatBits .sub .f64 (fi ((m : Int) - 900)) one = some (fi ((m : Int) - 900 - 1))) := by
    have : ∀ m : Nat, m < 1801 → (qbits .add .f64 (fi ((m : Int) - 900)) one = some (fi ((m : Int) - 900 + 1)) ∧ qbits .sub .f64 (fi ((m : Int) - 900)) one = some (fi ((m : Int) - 900 - 1))) := by decide +kernel
    intro m hm
    have := this m (by omega)
    rw [qbits_eq, qbits_eq] at this
    exact this
  obtain ⟨m, hm⟩ : ∃ m : Nat, (m : Int) - 900 = j := ⟨(j + 900).toNat, by omega⟩
  have := key m (by omega)
  rw [hm] at this
  exact this
theorem c15 : Fl .f64 4609434218613702656 ∧ Num.fv .f64 4609434218613702656 = 3 / 2 := by
  refine ⟨?_, ?_⟩
  · show (4609434218613702656 : Nat) % FloatKind.f64.format.signWeight < FloatKind.f64.format.infRung
    decide +kernel
  · unfold Num.fv val rv p2
    decide +kernel
theorem c075 : Fl .f64 4604930618986332160 ∧ Num.fv .f64 4604930618986332160 = 3 / 4 := by
  refine ⟨?_, ?_⟩
  · show (4604930618986332160 : Nat) % FloatKind.f64.format.signWeight < FloatKind.f64.format.infRung
    decide +kernel
  · unfold Num.fv val rv p2
    decide +kernel
theorem c2d : Fl .f64 4611686018427387904 ∧ Num.fv .f64 4611686018427387904 = 2 := by
  refine ⟨?_, ?_⟩
  · show (4611686018427387904 : Nat) % FloatKind.f64.format.signWeight < FloatKind.f64.format.infRung
    decide +kernel
  · unfold Num.fv val rv p2
    decide +kernel
theorem c1d : Fl .f64 one ∧ Num.fv .f64 one = 1 := by
  refine ⟨?_, ?_⟩
  · show (4607182418800017408 : Nat) % FloatKind.f64.format.signWeight < FloatKind.f64.format.infRung
    decide +kernel
  · unfold Num.fv val rv p2
    decide +kernel
theorem c0d : Fl .f64 0 ∧ Num.fv .f64 0 = 0 := by
  refine ⟨?_, ?_⟩
  · show (0 : Nat) % FloatKind.f64.format.signWeight < FloatKind.f64.format.infRung
    decide +kernel
  · unfold Num.fv val rv p2
    decide +kernel
/-- The logarithm of 2, as the program has it. -/
theorem cln : Fl .f64 4604418534313441775 ∧ 693 / 1000 ≤ Num.fv .f64 4604418534313441775 ∧ Num.fv .f64 4604418534313441775 ≤ 694 / 1000 := by
  refine ⟨?_, ?_, ?_⟩
  · show (4604418534313441775 : Nat) % FloatKind.f64.format.signWeight < FloatKind.f64.format.infRung
    decide +kernel
  · unfold Num.fv val rv p2
    decide +kernel
  · unfold Num.fv val rv p2
    decide +kernel
theorem ge_num {x y : Nat} (hx : Fl .f64 x) (hy : Fl .f64 y) : ge x y = decide (Num.fv .f64 y ≤ Num.fv .f64 x) := by
  rw [ge_eq]
  obtain ⟨o, e, h1, h2, h3⟩ := order_fin FloatKind.f64.format hx hy
  rw [e]
  by_cases c : Num.fv .f64 y ≤ Num.fv .f64 x
  · rw [decide_eq_true c]
    have : o ≠ .lt := fun q => absurd (h1.1 q) (Rat.not_lt.2 c)
    cases o <;> simp_all
  · rw [decide_eq_false c]
    rw [h1.2 (Rat.not_le.1 c)]
    decide
theorem lt_num {x y : Nat} (hx : Fl .f64 x) (hy : Fl .f64 y) : lt x y = decide (Num.fv .f64 x < Num.fv .f64 y) := by
  rw [lt_eq]
  obtain ⟨o, e, h1, h2, h3⟩ := order_fin FloatKind.f64.format hx hy
  rw [e]
  by_cases c : Num.fv .f64 x < Num.fv .f64 y
  · rw [decide_eq_true c, h1.2 c]; decide
  · rw [decide_eq_false c]
    have : o ≠ .lt := fun q => absurd (h1.1 q) c
    cases o <;> simp_all
theorem top_big : (100000 : Rat) ≤ top := by decide +kernel
theorem rep_pow (b : Nat) (hb : b ≤ 20) : Rep FloatKind.f64.format (((2 ^ b : Nat) : Rat)) := by
  have := rep_nat .f64 ((2 ^ b : Nat) : Int) (by
    rw [Int.natAbs_natCast]
    have : 2 ^ b ≤ 2 ^ 20 := Nat.pow_le_pow_right (by omega) hb
    have e : (2 : Nat) ^ 20 = 1048576 := rfl
    omega)
  rw [Rat.intCast_natCast] at this
  exact this
theorem pow_succ_rat (b : Nat) : ((2 ^ (b + 1) : Nat) : Rat) = 2 * ((2 ^ b : Nat) : Rat) := by
  rw [Nat.pow_succ, Rat.natCast_mul]
  have : ((2 : Nat) : Rat) = 2 := rfl
  rw [this]
  grind
theorem halved_num : ∀ (b n : Nat), b ≤ n → b ≤ 16 → ∀ (x a : Nat) (j : Int), j.natAbs + b ≤ 800 → Fl .f64 x → Num.fv .f64 x ≤ ((2 ^ b : Nat) : Rat) → (a = 0 ∨ ((2 ^ a : Nat) : Rat) ≤ Num.fv .f64 x) → 1 / 4 ≤ Num.fv .f64 x →
    ∃ (y i : Nat), halved n x (fi j) = some (y, fi (j + i)) ∧ Fl .f64 y ∧ Num.fv .f64 y < 3 / 2 ∧ 1 / 4 ≤ Num.fv .f64 y ∧ (i = 0 ∨ 3 / 4 ≤ Num.fv .f64 y) ∧ (i = 0 → y = x) ∧ a ≤ i ∧ i ≤ b := by
  intro b
  induction b with
  | zero =>
    intro n hn hb x a j hj hx h1 h2 h3
    have e1 : ((2 ^ 0 : Nat) : Rat) = 1 := rfl
    rw [e1] at h1
    have hg : ge x 4609434218613702656 = false := by
      rw [ge_num hx c15.1, c15.2]
      exact decide_eq_false (by grind)
    have ha : a = 0 := by
      rcases h2 with h2 | h2
      · exact h2
      · rcases Nat.eq_zero_or_pos a with c | c
        · exact c
        · have : ((2 : Nat) : Rat) ≤ ((2 ^ a : Nat) : Rat) := Rat.natCast_le_natCast.2 (by
            have : 2 ^ 1 ≤ 2 ^ a := Nat.pow_le_pow_right (by omega) c
            omega)
          have e2 : ((2 : Nat) : Rat) = 2 := rfl
          rw [e2] at this
          exfalso
          grind
    refine ⟨x, 0, ?_, hx, by grind, h3, .inl rfl, fun _ => rfl, by omega, Nat.le_refl _⟩
    cases n <;> (unfold halved; rw [if_neg (by rw [hg]; exact Bool.false_ne_true)]; congr 2; simp)
  | succ b ih =>
    intro n hn hb x a j hj hx h1 h2 h3
    by_cases c : (3 / 2 : Rat) ≤ Num.fv .f64 x
    · have hg : ge x 4609434218613702656 = true := by rw [ge_num hx c15.1, c15.2]; exact decide_eq_true c
      obtain ⟨m, rfl⟩ : ∃ m, n = m + 1 := ⟨n - 1, by omega⟩
      have hB : ((2 ^ (b + 1) : Nat) : Rat) ≤ 100000 := by
        have : ((2 ^ (b + 1) : Nat) : Rat) ≤ ((2 ^ 16 : Nat) : Rat) := Rat.natCast_le_natCast.2 (Nat.pow_le_pow_right (by omega) (by omega))
        have e : ((2 ^ 16 : Nat) : Rat) ≤ 100000 := by decide +kernel
        exact Rat.le_trans this e
      have t := top_big
      obtain ⟨T, eT⟩ : ∃ T : Rat, top = T := ⟨_, rfl⟩
      rw [eT] at t
      have hp := pow_succ_rat b
      obtain ⟨y, y1, y2⟩ := fdiv hx c2d.1 (by rw [c2d.2]; decide) (by rw [c2d.2, eT]; grind) (by rw [c2d.2, eT]; grind)
      rw [c2d.2] at y2
      have y3 : Num.fv .f64 y ≤ ((2 ^ b : Nat) : Rat) := y2.le _ (rep_pow b (by omega)) (by grind)
      have y4 : 3 / 4 ≤ Num.fv .f64 y := by
        have hr := rep_frac .f64 3 2 (by decide) (by decide)
        have e : ((3 : Int) : Rat) / ((2 ^ 2 : Nat) : Rat) = 3 / 4 := rfl
        rw [e] at hr
        exact y2.ge _ hr (by grind)
      have y5 : a - 1 = 0 ∨ ((2 ^ (a - 1) : Nat) : Rat) ≤ Num.fv .f64 y := by
        rcases h2 with h2 | h2
        · left; omega
        · rcases Nat.lt_or_ge 1 a with ca | ca
          · right
            obtain ⟨d, rfl⟩ : ∃ d, a = d + 1 := ⟨a - 1, by omega⟩
            rw [Nat.add_sub_cancel]
            have hpd := pow_succ_rat d
            have hd16 : d ≤ 20 := by
              rcases Nat.lt_or_ge d 21 with c | c
              · omega
              · have : ((2 ^ 22 : Nat) : Rat) ≤ ((2 ^ (d + 1) : Nat) : Rat) := Rat.natCast_le_natCast.2 (Nat.pow_le_pow_right (by omega) (by omega))
                have e : (100000 : Rat) < ((2 ^ 22 : Nat) : Rat) := by decide +kernel
                exfalso
                grind
            exact y2.ge _ (rep_pow d hd16) (by grind)
          · left; omega
      obtain ⟨z, i, z1, z2, z3, z4, z5, z6, z7, z8⟩ := ih m (by omega) (by omega) y (a - 1) (j + 1) (by omega) y2.fin y3 y5 (by grind)
      refine ⟨z, i + 1, ?_, z2, z3, z4, .inr ?_, fun h => absurd h (by omega), by omega, by omega⟩
      · unfold halved
        rw [if_pos hg, opf_of y1, opf_of (fi_step (by omega)).1, z1]
        congr 3
        omega
      · rcases z5 with z5 | z5
        · rw [z6 z5]; exact y4
        · exact z5
    · have hg : ge x 4609434218613702656 = false := by rw [ge_num hx c15.1, c15.2]; exact decide_eq_false c
      have ha : a = 0 := by
        rcases h2 with h2 | h2
        · exact h2
        · rcases Nat.eq_zero_or_pos a with ca | ca
          · exact ca
          · have : ((2 : Nat) : Rat) ≤ ((2 ^ a : Nat) : Rat) := Rat.natCast_le_natCast.2 (by
              have : 2 ^ 1 ≤ 2 ^ a := Nat.pow_le_pow_right (by omega) ca
              omega)
            have e2 : ((2 : Nat) : Rat) = 2 := rfl
            rw [e2] at this
            exfalso
            grind
      refine ⟨x, 0, ?_, hx, Rat.not_le.1 c, h3, .inl rfl, fun _ => rfl, by omega, by omega⟩
      cases n <;> (unfold halved; rw [if_neg (by rw [hg]; exact Bool.false_ne_true)]; congr 2; simp)
theorem doubled_stop {n x : Nat} {j : Int} (hx : Fl .f64 x) (h : 3 / 4 ≤ Num.fv .f64 x) : doubled n x (fi j) = some (x, fi j) := by
  have hg : lt x 4604930618986332160 = false := by rw [lt_num hx c075.1, c075.2]; exact decide_eq_false (Rat.not_lt.2 h)
  cases n <;> (unfold doubled; rw [if_neg (by rw [hg]; exact Bool.false_ne_true)])
theorem doubled_once {n x : Nat} {j : Int} (hj : j.natAbs ≤ 800) (hx : Fl .f64 x) (h : Num.fv .f64 x < 3 / 4) (h0 : 1 / 4 ≤ Num.fv .f64 x) : ∃ y, doubled (n + 1) x (fi j) = doubled n y (fi (j - 1)) ∧ Fl .f64 y ∧ Num.fv .f64 y ≤ 3 / 2 ∧ 1 / 2 ≤ Num.fv .f64 y ∧ (3 / 8 ≤ Num.fv .f64 x → 3 / 4 ≤ Num.fv .f64 y) := by
  have hg : lt x 4604930618986332160 = true := by rw [lt_num hx c075.1, c075.2]; exact decide_eq_true h
  have t := top_big
  obtain ⟨T, eT⟩ : ∃ T : Rat, top = T := ⟨_, rfl⟩
  rw [eT] at t
  obtain ⟨y, y1, y2⟩ := fmul hx c2d.1 (by rw [c2d.2, eT]; grind) (by rw [c2d.2, eT]; grind)
  rw [c2d.2] at y2
  have r1 := rep_frac .f64 3 1 (by decide) (by decide)
  have r2 := rep_frac .f64 1 1 (by decide) (by decide)
  have r3 := rep_frac .f64 3 2 (by decide) (by decide)
  have e1 : ((3 : Int) : Rat) / ((2 ^ 1 : Nat) : Rat) = 3 / 2 := rfl
  have e2 : ((1 : Int) : Rat) / ((2 ^ 1 : Nat) : Rat) = 1 / 2 := rfl
  have e3 : ((3 : Int) : Rat) / ((2 ^ 2 : Nat) : Rat) = 3 / 4 := rfl
  rw [e1] at r1
  rw [e2] at r2
  rw [e3] at r3
  refine ⟨y, ?_, y2.fin, y2.le _ r1 (by grind), y2.ge _ r2 (by grind), fun hq => y2.ge _ r3 (by grind)⟩
  conv => lhs; unfold doubled
  rw [if_pos hg, opf_of y1, opf_of (fi_step (by omega)).2]
/-- Down to a number from 3/4 to 3/2. -/
theorem scaled_num {x : Nat} {a b : Nat} (hb : b ≤ 16) (hx : Fl .f64 x) (h1 : Num.fv .f64 x ≤ ((2 ^ b : Nat) : Rat)) (h2 : a = 0 ∨ ((2 ^ a : Nat) : Rat) ≤ Num.fv .f64 x) (h3 : 1 / 4 ≤ Num.fv .f64 x) :
    ∃ (z : Nat) (j : Int), logP x = logTail z (fi j) ∧ Fl .f64 z ∧ 3 / 4 ≤ Num.fv .f64 z ∧ Num.fv .f64 z ≤ 3 / 2 ∧ -2 ≤ j ∧ (0 < a → (a : Int) ≤ j) ∧ j ≤ b := by
  obtain ⟨y, i, e, f1, f2, f3, f4, f5, f6, f7⟩ := halved_num b 20 (by omega) (by omega) x a 0 (by simp; omega) hx h1 h2 h3
  have e0 : fi 0 = 0 := by decide +kernel
  rw [e0] at e
  rw [Int.zero_add] at e
  by_cases c : 3 / 4 ≤ Num.fv .f64 y
  · refine ⟨y, i, ?_, f1, c, Rat.le_of_lt f2, by omega, fun _ => by omega, by omega⟩
    unfold logP
    rw [e]
    simp only
    rw [doubled_stop f1 c]
  · have hi : i = 0 := by
      rcases f4 with h | h
      · exact h
      · exact absurd h c
    subst hi
    obtain ⟨y2, d1, d2, d3, d4, d5⟩ := doubled_once (n := 19) (j := 0) (by decide) f1 (Rat.not_le.1 c) f3
    by_cases c2 : 3 / 4 ≤ Num.fv .f64 y2
    · refine ⟨y2, -1, ?_, d2, c2, d3, by omega, fun h => by omega, by omega⟩
      unfold logP
      rw [e]
      simp only
      rw [show ((0 : Nat) : Int) = 0 from rfl, d1, doubled_stop d2 c2]
      rfl
    · obtain ⟨y3, g1, g2, g3, g4, g5⟩ := doubled_once (n := 18) (j := -1) (by decide) d2 (Rat.not_le.1 c2) (by grind)
      refine ⟨y3, -2, ?_, g2, g5 (by grind), g3, by omega, fun h => by omega, by omega⟩
      unfold logP
      rw [e]
      simp only
      have q : (0 : Int) - 1 = -1 := rfl
      rw [show ((0 : Nat) : Int) = 0 from rfl, d1, q, g1, doubled_stop g2 (g5 (by grind))]
      rfl
theorem odds_num {u : Nat} (hu : Fl .f64 u) (h0 : 0 ≤ Num.fv .f64 u) (h1 : Num.fv .f64 u ≤ 25 / 256) : ∀ (n q : Nat), n ≤ 13 → Fl .f64 q → 0 ≤ Num.fv .f64 q → Num.fv .f64 q ≤ 9 / 8 → ∃ r, oddsL u n q = some r ∧ Fl .f64 r ∧ 0 ≤ Num.fv .f64 r ∧ Num.fv .f64 r ≤ 9 / 8 := by
  intro n
  induction n with
  | zero => exact fun q _ hq q0 q1 => ⟨q, rfl, hq, q0, q1⟩
  | succ n ih =>
    intro q hn hq q0 q1
    have t := top_big
    obtain ⟨T, eT⟩ : ∃ T : Rat, top = T := ⟨_, rfl⟩
    rw [eT] at t
    have r8 := rep_frac .f64 1 3 (by decide) (by decide)
    have r9 := rep_frac .f64 9 3 (by decide) (by decide)
    have e8 : ((1 : Int) : Rat) / ((2 ^ 3 : Nat) : Rat) = 1 / 8 := rfl
    have e9 : ((9 : Int) : Rat) / ((2 ^ 3 : Nat) : Rat) = 9 / 8 := rfl
    rw [e8] at r8
    rw [e9] at r9
    have hk := fi_num (j := 2 * (n : Int) + 1) (by omega)
    have hk1 : (1 : Rat) ≤ ((2 * (n : Int) + 1 : Int) : Rat) := by
      have := Rat.intCast_le_intCast.2 (show (1 : Int) ≤ 2 * (n : Int) + 1 by omega)
      exact this
    obtain ⟨K, eK⟩ : ∃ K : Rat, ((2 * (n : Int) + 1 : Int) : Rat) = K := ⟨_, rfl⟩
    rw [eK] at hk hk1
    have d1 : 1 / K * K = 1 := by grind
    have d2 : 0 ≤ 1 / K := by
      have hi : 0 < K⁻¹ := Rat.inv_pos.2 (by grind)
      rw [Rat.div_def]
      exact Rat.mul_nonneg (by decide) (Rat.le_of_lt hi)
    have d3 : 1 / K ≤ 1 := by
      refine rat_cancel (c := K) (by grind) ?_
      rw [d1]
      grind
    obtain ⟨a, a1, a2⟩ := fdiv c1d.1 hk.1 (by rw [hk.2]; grind) (by rw [c1d.2, hk.2, eT]; grind) (by rw [c1d.2, hk.2, eT]; grind)
    rw [c1d.2, hk.2] at a2
    have a3 : 0 ≤ Num.fv .f64 a := a2.ge_int 0 (by decide) d2
    have a4 : Num.fv .f64 a ≤ 1 := a2.le_int 1 (by decide) d3
    have m1 : 0 ≤ Num.fv .f64 u * Num.fv .f64 q := Rat.mul_nonneg h0 q0
    have m2 : Num.fv .f64 u * Num.fv .f64 q ≤ 1 / 8 := by
      have i1 := Rat.mul_le_mul_of_nonneg_right h1 q0
      grind
    obtain ⟨b, b1, b2⟩ := fmul hu hq (by rw [eT]; grind) (by rw [eT]; grind)
    have b3 : 0 ≤ Num.fv .f64 b := b2.ge_int 0 (by decide) m1
    have b4 : Num.fv .f64 b ≤ 1 / 8 := b2.le _ r8 m2
    obtain ⟨c, c1, c2⟩ := fadd a2.fin b2.fin (by rw [eT]; grind) (by rw [eT]; grind)
    have c3 : 0 ≤ Num.fv .f64 c := c2.ge_int 0 (by decide) (by have : ((0 : Int) : Rat) = 0 := rfl; rw [this]; grind)
    have c4 : Num.fv .f64 c ≤ 9 / 8 := c2.le _ r9 (by grind)
    obtain ⟨r, r1, r2⟩ := ih c (by omega) c2.fin c3 c4
    refine ⟨r, ?_, r2⟩
    unfold oddsL
    rw [opf_of a1, opf_of b1, opf_of c1, r1]
theorem rep_of {m : Int} {n : Nat} {v : Rat} (hm : m.natAbs ≤ 16777216) (hn : n ≤ 149) (e : (m : Rat) / ((2 ^ n : Nat) : Rat) = v) : Rep FloatKind.f64.format v := by
  have := rep_frac .f64 m n hm hn
  rw [e] at this
  exact this
theorem tail_num {z : Nat} {j : Int} (hz : Fl .f64 z) (h1 : 3 / 4 ≤ Num.fv .f64 z) (h2 : Num.fv .f64 z ≤ 3 / 2) (hj : j.natAbs ≤ 20) : ∃ r, logTail z (fi j) = some r ∧ Fl .f64 r ∧
    (j : Rat) * (Num.fv .f64 4604418534313441775) - 35 / 100 ≤ Num.fv .f64 r ∧ Num.fv .f64 r ≤ (j : Rat) * (Num.fv .f64 4604418534313441775) + 75 / 100 := by
  have t := top_big
  obtain ⟨T, eT⟩ : ∃ T : Rat, top = T := ⟨_, rfl⟩
  rw [eT] at t
  obtain ⟨Z, eZ⟩ : ∃ Z : Rat, Num.fv .f64 z = Z := ⟨_, rfl⟩
  rw [eZ] at h1 h2
  obtain ⟨a, a1, a2⟩ := fsub hz c1d.1 (by rw [eZ, c1d.2, eT]; grind) (by rw [eZ, c1d.2, eT]; grind)
  rw [eZ, c1d.2] at a2
  have a3 : -1 / 4 ≤ Num.fv .f64 a := a2.ge _ (rep_of (m := -1) (n := 2) (by decide) (by decide) rfl) (by grind)
  have a4 : Num.fv .f64 a ≤ 1 / 2 := a2.le _ (rep_of (m := 1) (n := 1) (by decide) (by decide) rfl) (by grind)
  obtain ⟨b, b1, b2⟩ := fadd hz c1d.1 (by rw [eZ, c1d.2, eT]; grind) (by rw [eZ, c1d.2, eT]; grind)
  rw [eZ, c1d.2] at b2
  have b3 : 7 / 4 ≤ Num.fv .f64 b := b2.ge _ (rep_of (m := 7) (n := 2) (by decide) (by decide) rfl) (by grind)
  have b4 : Num.fv .f64 b ≤ 5 / 2 := b2.le _ (rep_of (m := 5) (n := 1) (by decide) (by decide) rfl) (by grind)
  obtain ⟨A, eA⟩ : ∃ A : Rat, Num.fv .f64 a = A := ⟨_, rfl⟩
  obtain ⟨B, eB⟩ : ∃ B : Rat, Num.fv .f64 b = B := ⟨_, rfl⟩
  rw [eA] at a3 a4
  rw [eB] at b3 b4
  have q1 : A / B * B = A := by grind
  have q2 : A / B ≤ 5 / 16 := by
    refine rat_cancel (c := B) (by grind) ?_
    rw [q1]
    grind
  have q3 : -19 / 128 ≤ A / B := by
    refine rat_cancel (c := B) (by grind) ?_
    rw [q1]
    grind
  obtain ⟨s, s1, s2⟩ := fdiv a2.fin b2.fin (by rw [eB]; grind) (by rw [eA, eB, eT]; grind) (by rw [eA, eB, eT]; grind)
  rw [eA, eB] at s2
  have s3 : -19 / 128 ≤ Num.fv .f64 s := s2.ge _ (rep_of (m := -19) (n := 7) (by decide) (by decide) rfl) q3
  have s4 : Num.fv .f64 s ≤ 5 / 16 := s2.le _ (rep_of (m := 5) (n := 4) (by decide) (by decide) rfl) q2
  obtain ⟨S, eS⟩ : ∃ S : Rat, Num.fv .f64 s = S := ⟨_, rfl⟩
  rw [eS] at s3 s4
  have w1 : S * S ≤ 25 / 256 := by
    have := prod_in (x := S) (y := S) (A := 5 / 16) (B := 5 / 16) ⟨s4, by grind⟩ ⟨s4, by grind⟩ (by decide +kernel)
    have h := this.1
    have e : (5 / 16 : Rat) * (5 / 16) = 25 / 256 := by decide +kernel
    rw [e] at h
    exact h
  have w0 : 0 ≤ S * S := by
    rcases Rat.le_total (a := 0) (b := S) with c | c
    · exact Rat.mul_nonneg c c
    · have := Rat.mul_nonneg (show 0 ≤ -S by grind) (show 0 ≤ -S by grind)
      grind
  obtain ⟨u, u1, u2⟩ := fmul s2.fin s2.fin (by rw [eS, eT]; grind) (by rw [eS, eT]; grind)
  rw [eS] at u2
  have u3 : 0 ≤ Num.fv .f64 u := u2.ge_int 0 (by decide) w0
  have u4 : Num.fv .f64 u ≤ 25 / 256 := u2.le _ (rep_of (m := 25) (n := 8) (by decide) (by decide) rfl) w1
  obtain ⟨q, o1, o2, o3, o4⟩ := odds_num u2.fin u3 u4 13 0 (by omega) c0d.1 (by rw [c0d.2]; exact Rat.le_refl) (by rw [c0d.2]; decide +kernel)
  obtain ⟨Q, eQ⟩ : ∃ Q : Rat, Num.fv .f64 q = Q := ⟨_, rfl⟩
  rw [eQ] at o3 o4
  have x1 : S * Q ≤ 45 / 128 := by
    have := Rat.mul_le_mul_of_nonneg_right s4 o3
    grind
  have x2 : -171 / 1024 ≤ S * Q := by
    have := Rat.mul_le_mul_of_nonneg_right s3 o3
    grind
  obtain ⟨g, g1, g2⟩ := fmul s2.fin o2 (by rw [eS, eQ, eT]; grind) (by rw [eS, eQ, eT]; grind)
  rw [eS, eQ] at g2
  have g3 : -171 / 1024 ≤ Num.fv .f64 g := g2.ge _ (rep_of (m := -171) (n := 10) (by decide) (by decide) rfl) x2
  have g4 : Num.fv .f64 g ≤ 45 / 128 := g2.le _ (rep_of (m := 45) (n := 7) (by decide) (by decide) rfl) x1
  obtain ⟨h, k1, k2⟩ := fmul c2d.1 g2.fin (by rw [c2d.2, eT]; grind) (by rw [c2d.2, eT]; grind)
  rw [c2d.2] at k2
  have k3 : -171 / 512 ≤ Num.fv .f64 h := k2.ge _ (rep_of (m := -171) (n := 9) (by decide) (by decide) rfl) (by grind)
  have k4 : Num.fv .f64 h ≤ 45 / 64 := k2.le _ (rep_of (m := 45) (n := 6) (by decide) (by decide) rfl) (by grind)
  have hf := fi_num (j := j) (by omega)
  obtain ⟨L, eL⟩ : ∃ L : Rat, Num.fv .f64 4604418534313441775 = L := ⟨_, rfl⟩
  have hL := cln
  rw [eL] at hL ⊢
  have j1 : (j : Rat) ≤ 20 := by
    have := Rat.intCast_le_intCast.2 (show j ≤ 20 by omega)
    exact this
  have j2 : (-20 : Rat) ≤ (j : Rat) := by
    have := Rat.intCast_le_intCast.2 (show (-20 : Int) ≤ j by omega)
    exact this
  have hjl := prod_in (x := (j : Rat)) (y := L) (A := 20) (B := 1) ⟨j1, j2⟩ ⟨by grind, by grind⟩ (by decide)
  obtain ⟨J, eJ⟩ : ∃ J : Rat, (j : Rat) * L = J := ⟨_, rfl⟩
  rw [eJ] at hjl ⊢
  unfold InR at hjl
  obtain ⟨k, m1, m2⟩ := fmul hf.1 hL.1 (by rw [hf.2, eL, eJ, eT]; grind) (by rw [hf.2, eL, eJ, eT]; grind)
  rw [hf.2, eL, eJ] at m2
  have p32 : p2 5 = 32 := by decide +kernel
  have pe : p2 (5 - 53) ≤ 1 / 1000 := by decide +kernel
  have n1 := m2.near64 5 (by decide) (by decide) (by rw [p32]; grind) (by rw [p32]; grind)
  obtain ⟨r, r1, r2⟩ := fadd k2.fin m2.fin (by generalize Num.fv .f64 k = kk at *; generalize p2 (5 - 53) = E at *; rw [eT]; grind) (by generalize Num.fv .f64 k = kk at *; generalize p2 (5 - 53) = E at *; rw [eT]; grind)
  have n2 := r2.near64 5 (by decide) (by decide) (by rw [p32]; generalize Num.fv .f64 k = kk at *; generalize p2 (5 - 53) = E at *; grind) (by rw [p32]; generalize Num.fv .f64 k = kk at *; generalize p2 (5 - 53) = E at *; grind)
  refine ⟨r, ?_, r2.fin, ?_, ?_⟩
  · unfold logTail
    rw [opf_of a1, opf_of b1, opf_of s1, opf_of u1]
    have : ∀ kk : Nat → Option Nat, af (oddsL u 13 0) kk = kk q := fun kk => by
      unfold af
      rw [o1]
      exact fo_eq q kk
    rw [this, opf_of g1, opf_of k1, opf_of m1, opf_of r1]
  · generalize Num.fv .f64 k = kk at *
    generalize Num.fv .f64 r = rr at *
    generalize Num.fv .f64 h = hh at *
    generalize p2 (5 - 53) = E at *
    grind
  · generalize Num.fv .f64 k = kk at *
    generalize Num.fv .f64 r = rr at *
    generalize Num.fv .f64 h = hh at *
    generalize p2 (5 - 53) = E at *
    grind
set_option maxRecDepth 100000 in
theorem log_num {x : Nat} {a b : Nat} (hb : b ≤ 16) (hx : Fl .f64 x) (h1 : Num.fv .f64 x ≤ ((2 ^ b : Nat) : Rat)) (h2 : a = 0 ∨ ((2 ^ a : Nat) : Rat) ≤ Num.fv .f64 x) (h3 : 1 / 4 ≤ Num.fv .f64 x) :
    ∃ r, logP x = some r ∧ Fl .f64 r ∧ (if a = 0 then (-2 : Rat) else (a : Rat)) * (693 / 1000) - 36 / 100 ≤ Num.fv .f64 r ∧ Num.fv .f64 r ≤ (b : Rat) * (694 / 1000) + 76 / 100 := by
  obtain ⟨z, j, e, f1, f2, f3, f4, f5, f6⟩ := scaled_num hb hx h1 h2 h3
  obtain ⟨r, r1, r2, r3, r4⟩ := tail_num (j := j) f1 f2 f3 (by omega)
  obtain ⟨c1, c2, c3⟩ := cln
  refine ⟨r, by rw [e]; exact r1, r2, ?_, ?_⟩
  · generalize Num.fv .f64 4604418534313441775 = L at *
    by_cases ha : a = 0
    · rw [if_pos ha]
      have j2 : (-2 : Rat) ≤ (j : Rat) := by
        have := Rat.intCast_le_intCast.2 f4
        exact this
      have := Rat.mul_le_mul_of_nonneg_right j2 (show 0 ≤ L by grind)
      grind
    · rw [if_neg ha]
      have j2 : (a : Rat) ≤ (j : Rat) := by
        have := Rat.intCast_le_intCast.2 (f5 (by omega))
        rw [Rat.intCast_natCast] at this
        exact this
      have a0 : (0 : Rat) ≤ (a : Rat) := Rat.natCast_nonneg
      have i1 := Rat.mul_le_mul_of_nonneg_right j2 (show 0 ≤ L by grind)
      have i2 := Rat.mul_le_mul_of_nonneg_left c2 a0
      grind
  · generalize Num.fv .f64 4604418534313441775 = L at *
    have j2 : (j : Rat) ≤ (b : Rat) := by
      have := Rat.intCast_le_intCast.2 f6
      rw [Rat.intCast_natCast] at this
      exact this
    have b0 : (0 : Rat) ≤ (b : Rat) := Rat.natCast_nonneg
    have i1 := Rat.mul_le_mul_of_nonneg_right j2 (show 0 ≤ L by grind)
    have i2 := Rat.mul_le_mul_of_nonneg_left c3 b0
    grind
end Go.Proofs.Ytjmidicidgaapaa
