/- Walk: BorderOf, SpreadOf, InHeart. Conditions: numbers of eighths. -/
import Derived.Test.YtjmidicidgaapaaYj
import Derived.Test.YtjmidicidgaapaaYf
import Derived.Test.YtjmidicidgaapaaEg
import Derived.Test.YtjmidicidgaapaaEi
namespace Go.Proofs.Ytjmidicidgaapaa
open Go.RowKit
open Num Quick Circ
attribute [local go_sem] run_store_fl run_store_cx

set_option maxRecDepth 100000 in
set_option maxHeartbeats 1000000 in
theorem InHeartD {x y : Nat} {b : Bool} (h : heartD x y = some b) (hc : Cb ((2 : Nat) : Rat) (x, y)) (w : World) : Calls Try.prog 17 #[.complex .f32 x y] w fun e w' => e = .returned (.bool b) ∧ w' = w := by
  have SM := Lib.hid (fun w => isSmall_cb hc (by omega) w)
  unfold heartD at h
  obtain ⟨v1, g1, h⟩ := opg_some h
  obtain ⟨v2, g2, h⟩ := opg_some h
  obtain ⟨v3, g3, h⟩ := opg_some h
  obtain ⟨v4, g4, h⟩ := opg_some h
  obtain ⟨v5, g5, h⟩ := opg_some h
  obtain ⟨v6, g6, h⟩ := opg_some h
  obtain ⟨v7, g7, h⟩ := opg_some h
  obtain ⟨v8, g8, h⟩ := opg_some h
  obtain ⟨v9, g9, h⟩ := opg_some h
  have q1 := r32 g1
  have q2 := r32 g2
  have q3 := r32 g3
  have q4 := r32 g4
  have q5 := r32 g5
  have q6 := r32 g6
  have q7 := r32 g7
  have q8 := r32 g8
  have q9 := r32 g9
  clear g1 g2 g3 g4 g5 g6 g7 g8 g9 hc
  by_cases c : le32 v7 v9 = true
  · rw [if_pos c] at h
    injection h with h
    subst h
    rw [le32_eq] at c
    go_enter Try.func17, Try.ntmps17
    go_wp2_with fail
    refine (SM.out _).mono ?_
    rintro e w1 ⟨rfl, hw1⟩
    obtain rfl := hw1.symm
    go_wp2
    go_ret
    exact ⟨rfl, rfl⟩
  · rw [if_neg c] at h
    obtain ⟨v10, g10, h⟩ := opg_some h
    obtain ⟨v11, g11, h⟩ := opg_some h
    injection h with h
    rw [le32_eq] at c h
    have c : (FloatKind.f32.format.order v7 v9 == some .lt || FloatKind.f32.format.order v7 v9 == some .eq) = false := by simpa using c
    have q10 := r32 g10
    have q11 := r32 g11
    clear g10 g11
    cases b
    all_goals
      go_enter Try.func17, Try.ntmps17
      go_wp2_with fail
      refine (SM.out _).mono ?_
      rintro e w1 ⟨rfl, hw1⟩
      obtain rfl := hw1.symm
      go_wp2
      go_ret
      exact ⟨rfl, rfl⟩
theorem word_fin {r : Nat} (h : r % 2147483648 < 2139095040) : Fl .f32 r := by
  have hs : FloatKind.f32.format.signWeight = 2147483648 := by decide
  have hi : FloatKind.f32.format.infRung = 2139095040 := by decide
  show r % FloatKind.f32.format.signWeight < FloatKind.f32.format.infRung
  rw [hs, hi]
  exact h
theorem isOutW {a b r : Nat} (h : powC a b = some r) (hf : Fl .f32 r) (w : World) : Calls Try.prog 42 #[.complex .f32 a b] w fun e w' => e = .returned (.bool (!le32 r 1082130432)) ∧ w' = w := by
  have P := Lib.hid (fun w => powerOf_calls (w := w) h)
  have hs : (FloatKind.f32.format.order r r != some .eq) = false := by rw [cmp_eq' hf hf rfl]; decide
  have c4 : Fl .f32 1082130432 := word_fin (by decide)
  obtain ⟨o, o1, _⟩ := order_fin FloatKind.f32.format hf c4
  have hg : (FloatKind.f32.format.order r 1082130432 == some .gt) = !le32 r 1082130432 := by
    rw [le32_eq, o1]
    cases o <;> decide
  generalize le32 r 1082130432 = b at hg
  clear h hf c4 o1
  go_enter Try.func42, Try.ntmps42
  go_wp2_with fail
  refine (P.out _).mono ?_
  rintro e w1 ⟨rfl, hw1⟩
  obtain rfl := hw1.symm
  cases b
  all_goals
    go_wp2
    try go_ret
    exact ⟨by simp, rfl⟩
theorem logW {l g : Nat} (hl : (decide (0 < l) && decide (l < 2139095040)) = true) (h : logN l = some g) (w : World) : Calls Try.prog 48 #[.float .f32 l] w fun e w' => e = .returned (.float .f32 g) ∧ w' = w := by
  simp only [Bool.and_eq_true, decide_eq_true_eq] at hl
  have hF : Fl .f32 l := word_fin (by omega)
  have hp : 0 < Num.fv .f32 l := by
    have hs : FloatKind.f32.format.signWeight = 2147483648 := by decide
    show 0 < val FloatKind.f32.format l
    unfold val
    rw [hs, if_neg (by omega), show l % 2147483648 = l by omega]
    have hm := rv_mono FloatKind.f32.format (show 1 ≤ l by omega)
    have h1 : 0 < rv FloatKind.f32.format 1 := by unfold rv p2; decide +kernel
    grind
  unfold logN wide narrow at h
  obtain ⟨y, h1, h⟩ := af_some h
  obtain ⟨v, h2, h⟩ := af_some h
  obtain ⟨r, h3, h⟩ := af_some h
  obtain rfl : r = g := by simpa using h
  exact LogNumber_of hF hp h1 h2 h3 w
/-- One step of the orbit and of its derivative. -/
theorem bord_step {p q f a b u v : Nat} {F : Nat × Nat × Nat × Nat} (h : bordL p q (f + 1) a b u v = some F) : ∃ r, powC a b = some r ∧ Fl .f32 r ∧ ((le32 r 1082130432 = false ∧ F = (a, b, u, v)) ∨
    (le32 r 1082130432 = true ∧ ∃ x y m n m' n' s t c d, floatBits .add .f32 a a = some x ∧ floatBits .add .f32 b b = some y ∧ mulC x y u v = some (m, n) ∧ floatBits .add .f32 m 1065353216 = some m' ∧ floatBits .add .f32 n 0 = some n' ∧ mulC a b a b = some (s, t) ∧ floatBits .add .f32 s p = some c ∧ floatBits .add .f32 t q = some d ∧ bordL p q f c d m' n' = some F)) := by
  unfold bordL at h
  cases e : powC a b with
  | none => rw [e] at h; cases h
  | some r =>
    rw [e] at h
    simp only at h
    by_cases hf : r % 2147483648 < 2139095040
    · rw [if_pos (by simpa using hf)] at h
      refine ⟨r, rfl, word_fin hf, ?_⟩
      by_cases hl : le32 r 1082130432 = true
      · rw [if_pos hl] at h
        obtain ⟨x, hx, h⟩ := opg_some h
        obtain ⟨y, hy, h⟩ := opg_some h
        cases em : mulC x y u v with
        | none => rw [em] at h; cases h
        | some mn =>
          obtain ⟨m, n⟩ := mn
          rw [em] at h
          simp only at h
          obtain ⟨m', hm, h⟩ := opg_some h
          obtain ⟨n', hn, h⟩ := opg_some h
          cases es : stepD p q (a, b) with
          | none => rw [es] at h; cases h
          | some cd =>
            obtain ⟨c, d⟩ := cd
            rw [es] at h
            simp only at h
            unfold stepD at es
            simp only at es
            cases ez : mulC a b a b with
            | none => rw [ez] at es; cases es
            | some st =>
              obtain ⟨s, t⟩ := st
              rw [ez] at es
              simp only at es
              obtain ⟨c', hc, es⟩ := opg_some es
              obtain ⟨d', hd, es⟩ := opg_some es
              cases es
              exact .inr ⟨hl, x, y, m, n, m', n', s, t, _, _, hx, hy, em, hm, hn, rfl, hc, hd, h⟩
      · rw [if_neg hl] at h
        exact .inl ⟨by simpa using hl, (Option.some.inj h).symm⟩
    · rw [if_neg (by simpa using hf)] at h
      cases h
/-- What is done at the end. -/
theorem bord_end {a b u v r : Nat} (h : bordF a b u v = some r) : ∃ o, powC a b = some o ∧ Fl .f32 o ∧ r < 2139095040 ∧ ((le32 o 1082130432 = true ∧ r = 0) ∨
    (le32 o 1082130432 = false ∧ ∃ l g m k, longC a b = some l ∧ (∀ w : World, Calls Try.prog 48 #[.float .f32 l] w fun e w' => e = .returned (.float .f32 g) ∧ w' = w) ∧ floatBits .mul .f32 l g = some m ∧ longC u v = some k ∧ floatBits .quo .f32 m k = some r)) := by
  unfold bordF at h
  cases e : powC a b with
  | none => rw [e] at h; cases h
  | some o =>
    rw [e] at h
    simp only at h
    by_cases hf : o % 2147483648 < 2139095040
    · rw [if_pos (by simpa using hf)] at h
      refine ⟨o, rfl, word_fin hf, ?_⟩
      by_cases hl : le32 o 1082130432 = true
      · rw [if_pos hl] at h
        injection h with h
        subst h
        exact ⟨by decide, .inl ⟨hl, rfl⟩⟩
      · rw [if_neg hl] at h
        obtain ⟨l, e1, h⟩ := af_some h
        by_cases hp : (decide (0 < l) && decide (l < 2139095040)) = true
        · rw [if_pos hp] at h
          obtain ⟨g, e2, h⟩ := af_some h
          obtain ⟨m, e3, h⟩ := opg_some h
          obtain ⟨k, e4, h⟩ := af_some h
          obtain ⟨x, e5, h⟩ := opg_some h
          by_cases hx : x < 2139095040
          · rw [if_pos (by simpa using hx)] at h
            injection h with h
            subst h
            exact ⟨hx, .inr ⟨by simpa using hl, l, g, m, k, e1, fun w => logW hp e2 w, e3, e4, e5⟩⟩
          · rw [if_neg (by simpa using hx)] at h
            cases h
        · rw [if_neg hp] at h
          cases h
    · rw [if_neg (by simpa using hf)] at h
      cases h
set_option maxRecDepth 100000 in
set_option maxHeartbeats 4000000 in
theorem BorderOf_ok {p q a b u v r : Nat} (hc : Cb ((2 : Nat) : Rat) (p, q)) (h : bordL p q 40 0 0 0 0 = some (a, b, u, v)) (hF : bordF a b u v = some r) (w : World) :
    Calls Try.prog 16 #[.complex .f32 p q, .int .i64 40] w fun e w' => e = .returned (.tuple #[.float .f32 r, .bool true]) ∧ w' = w ∧ r < 2139095040 := by
  have SM := Lib.hid (fun w => isSmall_cb hc (by omega) w)
  have WI := Lib.hid (fun w => within_w 40 1 128 w (by omega) (by omega))
  have HL := Lib.hid h
  obtain ⟨o, hp, hof, hr, hcase⟩ := bord_end hF
  have IO := Lib.hid (fun w => isOutW hp hof w)
  have HR := Lib.hid hr
  have HC := Lib.hid hcase
  have IN := Lib.hid (fun w => ifNumber_num (word_fin (show r % 2147483648 < 2139095040 by omega)) w)
  have L1 : Hid (powC a b = some o) := Lib.hid hp
  clear hc h hF hp hof hr hcase
  go_enter Try.func16, Try.ntmps16
  go_wp2_with fail
  refine (SM.out _).mono ?_
  rintro e w1 ⟨rfl, hw1⟩
  obtain rfl := hw1.symm
  go_wp2_with fail
  refine (WI.out _).mono ?_
  rintro e w1 ⟨rfl, hw1⟩
  obtain rfl := hw1.symm
  clear SM WI
  go_wp2
  go_loopw [6, 7, 18] (fun sz sd si wr => ∃ (i a1 b1 u1 v1 : Nat), si = .int .i64 (i : Int) ∧ i ≤ 40 ∧ sz = .complex .f32 a1 b1 ∧ sd = .complex .f32 u1 v1 ∧ Hid (bordL p q (40 - i) a1 b1 u1 v1 = some (a, b, u, v)) ∧ wr = w) (fun _ _ si _ => 40 - (intOf si).toNat)
  case atStart => exact ⟨0, 0, 0, 0, 0, rfl, by omega, rfl, rfl, HL, rfl⟩
  case round =>
    clear HL
    obtain ⟨i, a1, b1, u1, v1, rfl, hi, rfl, rfl, HB, hwr⟩ := hrel
    obtain rfl := hwr.symm
    by_cases hlt : i < 40
    · have hii : (i : Int) < 40 := by omega
      obtain ⟨f, hf⟩ : ∃ f, 40 - i = f + 1 := ⟨40 - i - 1, by omega⟩
      have hb := HB.out
      rw [hf] at hb
      obtain ⟨r1, e1, e2, hk⟩ := bord_step hb
      have IO1 := Lib.hid (fun w => isOutW e1 e2 w)
      have HF := Lib.hid hf
      clear hb hf e1 e2 HB
      rcases hk with ⟨hl, hk⟩ | ⟨hl, x, y, m, n, m', n', s, t, c, d, k1, k2, k3, k4, k5, k6, k7, k8, k9⟩
      · simp only [Prod.mk.injEq] at hk
        obtain ⟨rfl, rfl, rfl, rfl⟩ := hk
        rw [hl] at IO1
        clear hl
        go_wp2_with fail
        refine (IO1.out _).mono ?_
        rintro e w2 ⟨rfl, hw2⟩
        obtain rfl := hw2.symm
        clear IO1
        go_wp2_with fail
        refine (IO.out _).mono ?_
        rintro e w3 ⟨rfl, hw3⟩
        obtain rfl := hw3.symm
        clear IO
        rcases HC.out with ⟨hl, hr0⟩ | ⟨hl, l, g, mm, kk, t1, t2, t3, t4, t5⟩
        · subst hr0
          rw [hl]
          clear hl HC IN
          go_wp2
          go_ret2
          exact ⟨rfl, rfl, HR.out⟩
        · rw [hl]
          have T1 := Lib.hid (fun w => LongOf_calls w t1)
          have T2 := Lib.hid t2
          have q3 := r32 t3
          have T4 := Lib.hid (fun w => LongOf_calls w t4)
          have q5 := r32 t5
          clear t1 t2 t3 t4 t5 hl HC
          go_wp2_with fail
          refine (T1.out _).mono ?_
          rintro e w3 ⟨rfl, hw3⟩
          obtain rfl := hw3.symm
          go_wp2_with fail
          refine (T2.out _).mono ?_
          rintro e w3 ⟨rfl, hw3⟩
          obtain rfl := hw3.symm
          go_wp2_with fail
          refine (T4.out _).mono ?_
          rintro e w3 ⟨rfl, hw3⟩
          obtain rfl := hw3.symm
          go_wp2_with fail
          refine (IN.out _).mono ?_
          rintro e w3 ⟨rfl, hw3⟩
          obtain rfl := hw3.symm
          go_wp2
          go_ret2
          exact ⟨rfl, rfl, HR.out⟩
      · rw [hl] at IO1
        have A1 := Lib.hid (fun w => addW w k1 k2)
        have M1 := Lib.hid (fun w => mul_calls w k3)
        have A2 := Lib.hid (fun w => addW w k4 k5)
        have M2 := Lib.hid (fun w => mul_calls w k6)
        have A3 := Lib.hid (fun w => addW w k7 k8)
        have K9 := Lib.hid k9
        clear k1 k2 k3 k4 k5 k6 k7 k8 k9 hl
        go_wp2_with fail
        refine (IO1.out _).mono ?_
        rintro e w2 ⟨rfl, hw2⟩
        obtain rfl := hw2.symm
        clear IO1
        go_wp2_with fail
        refine (A1.out _).mono ?_
        rintro e w2 ⟨rfl, hw2⟩
        obtain rfl := hw2.symm
        go_wp2_with fail
        refine (M1.out _).mono ?_
        rintro e w2 ⟨rfl, hw2⟩
        obtain rfl := hw2.symm
        go_wp2_with fail
        refine (A2.out _).mono ?_
        rintro e w2 ⟨rfl, hw2⟩
        obtain rfl := hw2.symm
        go_wp2_with fail
        refine (M2.out _).mono ?_
        rintro e w2 ⟨rfl, hw2⟩
        obtain rfl := hw2.symm
        go_wp2_with fail
        refine (A3.out _).mono ?_
        rintro e w2 ⟨rfl, hw2⟩
        obtain rfl := hw2.symm
        clear A1 M1 A2 M2 A3
        go_wp2
        go_roundw
        case rel => exact ⟨i + 1, c, d, m', n', by go_num, by omega, rfl, rfl, by rw [show 40 - (i + 1) = f by have := HF.out; omega]; exact K9, by first | rfl | trivial⟩
        case measure => simp [intOf]; omega
    · have hii : ¬ (i : Int) < 40 := by omega
      have hb := HB.out
      rw [show 40 - i = 0 by omega] at hb
      unfold bordL at hb
      simp only [Option.some.injEq, Prod.mk.injEq] at hb
      obtain ⟨rfl, rfl, rfl, rfl⟩ := hb
      clear HB
      go_wp2_with fail
      refine (IO.out _).mono ?_
      rintro e w3 ⟨rfl, hw3⟩
      obtain rfl := hw3.symm
      clear IO
      rcases HC.out with ⟨hl, hr0⟩ | ⟨hl, l, g, mm, kk, t1, t2, t3, t4, t5⟩
      · subst hr0
        rw [hl]
        clear hl HC IN
        go_wp2
        go_ret2
        exact ⟨rfl, rfl, HR.out⟩
      · rw [hl]
        have T1 := Lib.hid (fun w => LongOf_calls w t1)
        have T2 := Lib.hid t2
        have q3 := r32 t3
        have T4 := Lib.hid (fun w => LongOf_calls w t4)
        have q5 := r32 t5
        clear t1 t2 t3 t4 t5 hl HC
        go_wp2_with fail
        refine (T1.out _).mono ?_
        rintro e w3 ⟨rfl, hw3⟩
        obtain rfl := hw3.symm
        go_wp2_with fail
        refine (T2.out _).mono ?_
        rintro e w3 ⟨rfl, hw3⟩
        obtain rfl := hw3.symm
        go_wp2_with fail
        refine (T4.out _).mono ?_
        rintro e w3 ⟨rfl, hw3⟩
        obtain rfl := hw3.symm
        go_wp2_with fail
        refine (IN.out _).mono ?_
        rintro e w3 ⟨rfl, hw3⟩
        obtain rfl := hw3.symm
        go_wp2
        go_ret2
        exact ⟨rfl, rfl, HR.out⟩
set_option maxRecDepth 100000 in
theorem SpreadOf_ok {p q a b : Nat} (hc : Cb ((2 : Nat) : Rat) (p, q)) (hz : Cb ((2 : Nat) : Rat) (a, b)) (w : World) :
    Calls Try.prog 15 #[.agg #[.int .i64 0, .complex .f32 p q], .complex .f32 a b] w fun e w' => ∃ r, e = .returned (.tuple #[.float .f32 r, .bool true]) ∧ (FloatKind.f32.format.order r 0 == some .gt || FloatKind.f32.format.order r 0 == some .eq) = true ∧ Below w.heap.size w w' := by
  have VM := Lib.hid (fun w => ValidMap_ok 0 (p, q) w (by omega) hc)
  have SM := Lib.hid (fun w => isSmall_cb hz (by omega) w)
  have e2 : ((2 : Nat) : Rat) = 2 := rfl
  have i1 := hz.2.2.1
  have i2 := hz.2.2.2
  have m2 : (2 : Rat) ≤ mid := by decide +kernel
  rw [e2] at i1 i2
  obtain ⟨l, l1, l2⟩ := long_num hz.1 hz.2.1 (small_mid hz.2.2.1 (by omega)) (small_mid hz.2.2.2 (by omega))
  have r4 := rep_nat .f32 4 (by decide)
  have h4 : Num.fv .f32 l ≤ 4 := by
    have e4 : ((4 : Int) : Rat) = 4 := rfl
    rw [e4] at r4
    have s1 := prod_in i1 i1 (by decide)
    have s2 := prod_in i2 i2 (by decide)
    exact l2.le _ r4 (by decide) (by unfold InR at s1 s2; grind)
  have h0 := l2.nonneg
  have c2 : Fl .f32 1073741824 := word_fin (by decide)
  have v2 : Num.fv .f32 1073741824 = 2 := by unfold Num.fv val rv p2; decide +kernel
  have t8 : (8 : Rat) ≤ top := by decide +kernel
  obtain ⟨T, eT⟩ : ∃ T : Rat, top = T := ⟨_, rfl⟩
  rw [eT] at t8
  have h0' : 0 ≤ Num.fv .f32 l := h0
  obtain ⟨r, r1, r2⟩ := fmul c2 l2.fin (by rw [eT, v2]; grind) (by rw [eT, v2]; grind)
  rw [v2] at r2
  have hr0 : 0 ≤ Num.fv .f32 r := by
    have := r2.ge_int 0 (by decide) (by rw [Rat.intCast_zero]; grind)
    rwa [Rat.intCast_zero] at this
  have hge : (FloatKind.f32.format.order r 0 == some .gt || FloatKind.f32.format.order r 0 == some .eq) = true := by
    obtain ⟨o, o1, o2, _, _⟩ := order_fin FloatKind.f32.format r2.fin c0.1
    rw [o1]
    cases o with
    | gt => decide
    | eq => decide
    | lt =>
      have := o2.1 rfl
      have c := c0.2
      have h1 : val FloatKind.f32.format r < 0 := by rw [← c]; exact this
      have h2 : 0 ≤ val FloatKind.f32.format r := hr0
      exact absurd h1 (Rat.not_lt.2 h2)
  have LO := Lib.hid l1
  have IN := Lib.hid (fun w => ifNumber_num r2.fin w)
  have q1 := r32 r1
  have HG := Lib.hid hge
  obtain ⟨v, ev⟩ : ∃ v, v = w.alloc (.cells #[.int .i64 0, .complex .f32 p q] 28) := ⟨_, rfl⟩
  have B0 : Hid (Blk v w.heap.size 28 #[.int .i64 0, .complex .f32 p q]) := by rw [ev]; exact Lib.hid (Blk.new _ _ _)
  have e0 : v.cell? ⟨w.heap.size, 0, none⟩ = some (.int .i64 0) := B0.out.cell 0
  have e1 : v.cell? ⟨w.heap.size, 1, none⟩ = some (.complex .f32 p q) := B0.out.cell 1
  have V0 : Hid (Below w.heap.size w v) := by rw [ev]; exact Lib.hid (below_new _ _)
  have EV := Lib.hid ev
  rw [ev] at e0 e1
  unfold mapV at VM
  clear hc hz e2 i1 i2 m2 l1 l2 r4 h4 h0 h0' c2 v2 t8 eT r1 r2 hr0 hge ev
  go_enter Try.func15, Try.ntmps15
  go_wp2_with fail
  rw [← EV.out]
  refine (VM.out _).mono ?_
  rintro e w1 ⟨rfl, hb1⟩
  have V1 := Lib.hid (V0.out.trans (hb1.mono V0.out.size))
  have B1 := Lib.hid (B0.out.below hb1 B0.out.lt)
  clear hb1 V0 EV e0 e1 B0 VM
  have e0 := B1.out.cell 0
  have e1 := B1.out.cell 1
  go_wp2_with fail
  refine (SM.out _).mono ?_
  rintro e w2 ⟨rfl, hw2⟩
  obtain rfl := hw2.symm
  go_wp2_with fail
  refine (LO.out _).mono ?_
  rintro e w2 ⟨rfl, hw2⟩
  obtain rfl := hw2.symm
  go_wp2_with fail
  refine (IN.out _).mono ?_
  rintro e w2 ⟨rfl, hw2⟩
  obtain rfl := hw2.symm
  go_wp2
  go_ret2
  exact ⟨r, rfl, HG.out, V1.out⟩
end Go.Proofs.Ytjmidicidgaapaa
