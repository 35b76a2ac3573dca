/- Walks: the reference's sine and phasor of turns. Conditions: the plain functions give numbers. Walk: the reference's phasor of turns, and the sixteen phasors of sixteenths. Conditions: the plain functions give numbers. -/
import Derived.Test.YtbpgbplepebcjaaCa
import Derived.Test.YtbpgbplepebcjaaMb
import Derived.WalkKit
import Derived.WalkLawsBesides
import Derived.Lib.Hide
import Derived.Deep.LoopGhost
import Derived.Test.YtbpgbplepebcjaaNrm
namespace Go.Proofs.Ytbpgbplepebcjaa
open Go.RowKit
open Circ

theorem unary_ngS (b : Nat) : Op.unary .neg (.float .f64 b) = pure (.float .f64 (ng b)) := rfl
attribute [local go_sem] unary_ngS
theorem rInt64 {x : Nat} {n : Int} (h : floatToIntVal .f64 x .i64 = some n) : ∀ w : World, (convert 40 2 (.float .f64 x)).run Try.prog w = .ok (.int .i64 n) w := fun w => run_convert_float_int w _ _ _ _ _ _ (by rw [Try.underlying40]; rfl) Try.underlying2 h
theorem rFrom (n : Int) : ∀ w : World, (convert 2 40 (.int .i64 n)).run Try.prog w = .ok (.float .f64 (fi n)) w := fun w => run_convert_int_float w _ _ _ _ _ (by rw [Try.underlying2]; rfl) Try.underlying40
theorem rFromI (n : Int) : ∀ w : World, (convert 3 40 (.int .i64 n)).run Try.prog w = .ok (.float .f64 (fi n)) w := fun w => run_convert_int_float w _ _ _ _ _ (by rw [Try.underlying3]; rfl) Try.underlying40
theorem cond_someS {c : Bool} {op : BinOp} {x y z r : Nat} (h : (if c then opf op x y some else some z) = some r) : (c = true ∧ floatBits op .f64 x y = some r) ∨ (c = false ∧ z = r) := by
  cases c
  · exact .inr ⟨rfl, by simpa using h⟩
  · obtain ⟨q, h1, h2⟩ := opf_some h
    cases h2
    exact .inl ⟨rfl, h1⟩
theorem ge_trueS {x y : Nat} (h : ge x y = true) : ((FloatKind.f64.format.order x y == some .gt) = true ∧ (FloatKind.f64.format.order x y == some .eq) = false) ∨ ((FloatKind.f64.format.order x y == some .gt) = false ∧ (FloatKind.f64.format.order x y == some .eq) = true) := by
  rw [ge_eq] at h
  cases e : FloatKind.f64.format.order x y with
  | none => rw [e] at h; cases h
  | some o => rw [e] at h; cases o <;> first | (cases h; done) | decide
theorem ge_falseS {x y : Nat} (h : ge x y = false) : (FloatKind.f64.format.order x y == some .gt) = false ∧ (FloatKind.f64.format.order x y == some .eq) = false := by
  rw [ge_eq] at h
  exact Bool.or_eq_false_iff.1 h
/-- What keeps a number of turns from the reference's sine. -/
structure CalmS (t : Nat) : Prop where
  d : ∃ d, floatBits .sub .f64 t t = some d ∧ (FloatKind.f64.format.order d 0 == some .eq) = true
  hi : ge t 4841369599423283200 = false
  lo : (FloatKind.f64.format.order t 14064741636278059008 == some .lt || FloatKind.f64.format.order t 14064741636278059008 == some .eq) = false
section
variable (w : World)
set_option maxHeartbeats 4000000 in
theorem ssine_calls {x r : Nat} (hc : CalmS x) (h : sine x = some r) : Calls Try.prog 100 #[.float .f64 x] w fun e w' => e = .returned (.float .f64 r) ∧ w' = w := by
  obtain ⟨⟨d, hd, hd0⟩, hhi, hlo⟩ := hc
  obtain ⟨hi1, hi2⟩ := ge_falseS hhi
  obtain ⟨lo1, lo2⟩ := Bool.or_eq_false_iff.1 hlo
  have hne : (FloatKind.f64.format.order d 0 != some .eq) = false := by simpa [bne] using hd0
  have qd := r64 hd
  unfold sine at h
  obtain ⟨f, hf, h1⟩ := af_some h
  obtain ⟨g, hg, h2⟩ := af_some h1
  obtain ⟨g2, hg2, h3⟩ := af_some h2
  obtain ⟨z, hz, h4⟩ := opf_some h3
  obtain ⟨u, hu, h5⟩ := opf_some h4
  obtain ⟨p, hp, h6⟩ := af_some h5
  obtain ⟨v, hv, h7⟩ := opf_some h6
  unfold fraction at hf
  obtain ⟨m, hm, hf2⟩ := af_some hf
  cases h0 : floatToIntVal .f64 x .i64 with
  | none => rw [h0] at hm; cases hm
  | some n =>
    rw [h0] at hm
    obtain rfl : fi n = m := by simpa using hm
    obtain ⟨f0, hf0, hf3⟩ := opf_some hf2
    have qn := rInt64 h0
    have qw := rFrom n
    have qf := r64 hf0
    have qz := r64 hz
    have qu := r64 hu
    have qv := r64 hv
    have HH := Lib.hid hp
    clear hd hd0 hhi hlo hf hm hf2 h0 hf0 hz hu hv hp h h1 h2 h3 h4 h5 h6
    rcases cond_someS hf3 with ⟨c0, hf4⟩ | ⟨c0, rfl⟩ <;> rcases cond_someS hg with ⟨c1, hg1⟩ | ⟨c1, rfl⟩ <;> rcases cond_someS hg2 with ⟨c2, hg3⟩ | ⟨c2, rfl⟩ <;> rw [c1] at h7 <;> rw [gt_eq] at c2 <;> rw [lt_eq] at c0 <;> simp only [if_true, Bool.false_eq_true, if_false, Option.some.injEq] at h7 <;> subst h7
    all_goals
      first
      | (rcases ge_trueS c1 with ⟨t1, t2⟩ | ⟨t1, t2⟩)
      | (obtain ⟨t1, t2⟩ := ge_falseS c1)
    all_goals
      first | have q0 := r64 hf4 | skip
      first | have q1 := r64 hg1 | skip
      first | have q2 := r64 hg3 | skip
      first | clear hf4 | skip
      first | clear hg1 | skip
      first | clear hg3 | skip
      clear hf3 hg hg2 c1
      go_enter Try.func100, Try.ntmps100
      go_wp2
      go_loop [7, 8] (fun sp sk => ∃ (q j : Nat), sp = .float .f64 q ∧ sk = .int .i64 (j : Int) ∧ j ≤ 8 ∧ Hid (hor u j q = some p)) (fun _ sk => (intOf sk).toNat)
      case atStart => exact ⟨one, 8, rfl, rfl, by omega, HH⟩
      case round =>
        obtain ⟨q, j, rfl, rfl, hj, HQ⟩ := hrel
        rcases Nat.eq_zero_or_pos j with hj0 | hj0
        · rw [hj0] at HQ
          obtain rfl : q = p := by simpa [hor] using HQ.out
          subst hj0
          go_wp2
          go_ret
          simp
        · obtain ⟨k, hk⟩ : ∃ k, j = k + 1 := ⟨j - 1, by omega⟩
          have hq := HQ.out
          rw [hk] at hq
          unfold hor at hq
          rw [← hk] at hq
          obtain ⟨a, ha, hq1⟩ := opf_some hq
          obtain ⟨b, hb, hq2⟩ := opf_some hq1
          obtain ⟨c, hc, hq3⟩ := opf_some hq2
          have hj1 : (1 : Int) ≤ (j : Int) := by omega
          have hjm : (j : Int) - 1 = (k : Int) := by omega
          obtain ⟨n3, hn3⟩ : ∃ n3 : Int, 2 * (j : Int) * (2 * (j : Int) + 1) = n3 := ⟨_, rfl⟩
          have hr : 0 ≤ n3 ∧ n3 ≤ 300 := by
            rw [← hn3]
            rcases (show j = 1 ∨ j = 2 ∨ j = 3 ∨ j = 4 ∨ j = 5 ∨ j = 6 ∨ j = 7 ∨ j = 8 by omega) with h | h | h | h | h | h | h | h <;> subst h <;> decide
          have hwn : wrap64 n3 = n3 := IntWalk.wrap64_in _ (by omega)
          rw [hn3] at hb
          have r4 := rFromI n3
          generalize fi n3 = k3 at r4 hb
          have r5 := r64 ha
          have r6 := r64 hb
          have r7 := r64 hc
          have HN : Hid (hor u k c = some p) := Lib.hid hq3
          have hj8 : (j : Int) ≤ 8 := by omega
          have hkj : k < j := by omega
          have hk8 : k ≤ 8 := by omega
          clear hq hq1 hq2 hq3 ha hb hc hr hk
          go_wp2
          go_round
          case measure => simp [intOf]; omega
          case rel => exact ⟨c, k, rfl, by go_num, hk8, HN⟩
end
end Go.Proofs.Ytbpgbplepebcjaa
namespace Go.Proofs.Ytbpgbplepebcjaa
open Go.RowKit
open Circ Num Quick

theorem snarrow_w {x r : Nat} (h : qnarrow x = some r) (w : World) : Calls Try.prog 93 #[.float .f64 x] w fun e w' => e = .returned (.float .f32 r) ∧ w' = w := by
  have h1 := rNarrow h
  clear h
  go_enter Try.func93, Try.ntmps93
  go_wp2
  go_ret
  exact ⟨rfl, rfl⟩
theorem snarrow2 {x1 x2 y1 y2 : Nat} (h1 : qnarrow x1 = some y1) (h2 : qnarrow x2 = some y2) : ∀ z, z = x1 ∨ z = x2 → ∀ w : World, Calls Try.prog 93 #[.float .f64 z] w fun e' w' => ∃ r, e' = .returned (.float .f32 r) ∧ w' = w ∧ (z = x1 → r = y1) ∧ (z = x2 → r = y2) := by
  rintro z (rfl | rfl) w
  · refine (snarrow_w h1 w).mono ?_
    rintro e' w' ⟨rfl, rfl⟩
    refine ⟨y1, rfl, rfl, fun _ => rfl, fun h => ?_⟩
    rw [h, h2] at h1
    exact (Option.some.inj h1).symm
  · refine (snarrow_w h2 w).mono ?_
    rintro e' w' ⟨rfl, rfl⟩
    refine ⟨y2, rfl, rfl, fun h => ?_, fun _ => rfl⟩
    rw [← h, h2] at h1
    exact Option.some.inj h1
section
variable (w : World)
set_option maxHeartbeats 4000000 in
theorem sphasor_calls {t f g n e c s a b : Nat} (hc : CalmS t) (hf : fraction t = some f) (hT : turnsLeft 3 f 0 = some (g, n)) (he : floatBits .sub .f64 quarter g = some e) (ce : CalmS e) (cg : CalmS g) (hcs : sine e = some c) (hs : sine g = some s) (h : turned n c s = some (a, b)) :
    Calls Try.prog 71 #[.float .f64 t] w fun e' w' => e' = .returned (.complex .f32 a b) ∧ w' = w := by
  obtain ⟨⟨d, hd, hd0⟩, hhi, hlo⟩ := hc
  obtain ⟨hi1, hi2⟩ := ge_falseS hhi
  obtain ⟨lo1, lo2⟩ := Bool.or_eq_false_iff.1 hlo
  have hne : (FloatKind.f64.format.order d 0 != some .eq) = false := by simpa [bne] using hd0
  have qd := r64 hd
  have qe := r64 he
  unfold fraction at hf
  obtain ⟨m, hm, hf2⟩ := af_some hf
  cases h0 : floatToIntVal .f64 t .i64 with
  | none => rw [h0] at hm; cases hm
  | some k0 =>
    rw [h0] at hm
    obtain rfl : fi k0 = m := by simpa using hm
    obtain ⟨f0, hf0, hf3⟩ := opf_some hf2
    have qn := rInt64 h0
    have qw := rFrom k0
    have qf := r64 hf0
    have C4 : ∀ z, z = e ∨ z = g → ∀ w : World, Calls Try.prog 100 #[.float .f64 z] w fun e' w' => ∃ r, e' = .returned (.float .f64 r) ∧ w' = w ∧ (z = e → r = c) ∧ (z = g → r = s) := by
      rintro z (rfl | rfl) w1
      · refine (ssine_calls w1 ce hcs).mono ?_
        rintro e' w' ⟨rfl, rfl⟩
        refine ⟨c, rfl, rfl, fun _ => rfl, fun h => ?_⟩
        rw [h, hs] at hcs
        exact (Option.some.inj hcs).symm
      · refine (ssine_calls w1 cg hs).mono ?_
        rintro e' w' ⟨rfl, rfl⟩
        refine ⟨s, rfl, rfl, fun h => ?_, fun _ => rfl⟩
        rw [← h, hs] at hcs
        exact Option.some.inj hcs
    have C4 := Lib.hid C4
    have H3 := Lib.hid h
    have HT2 := Lib.hid hT
    clear hd hd0 hhi hlo hf hm hf2 h0 hf0 he ce cg hcs hs h hT
    rcases cond_someS hf3 with ⟨c0, hf4⟩ | ⟨c0, rfl⟩ <;> rw [lt_eq] at c0
    all_goals
      first | have q0 := r64 hf4 | skip
      first | clear hf4 | skip
      clear hf3
      go_enter Try.func71, Try.ntmps71
      go_wp2
      go_loop [3, 4] (fun sf sq => ∃ (f q j : Nat), sf = .float .f64 f ∧ sq = .int .i64 (q : Int) ∧ q + j = 3 ∧ Hid (turnsLeft j f q = some (g, n))) (fun _ sq => 3 - (intOf sq).toNat)
      case atStart => exact ⟨_, 0, 3, rfl, rfl, rfl, HT2⟩
      case round =>
        obtain ⟨f, q, j, rfl, rfl, HQ, HT⟩ := hrel
        clear HT2
        cases hge : ge f quarter with
        | false =>
          obtain ⟨g1, g2⟩ := ge_falseS hge
          have e1 := turnsLeft_stop HT.out hge
          obtain ⟨rfl, rfl⟩ : g = f ∧ n = q := by cases e1; exact ⟨rfl, rfl⟩
          have hq4 : n = 0 ∨ n = 1 ∨ n = 2 ∨ n = 3 := by omega
          clear e1 hge HT HQ
          rcases hq4 with rfl | rfl | rfl | rfl
          · have h := H3.out
            unfold turned narrow at h
            obtain ⟨x, hx, h1⟩ := af_some h
            obtain ⟨y, hy, h9⟩ := af_some h1
            cases h9
            have NC := Lib.hid (snarrow2 hx hy)
            clear hx hy h1
            clear h H3
            go_wp2_with (first | (go_at_call 100; refine (C4.out _ (by first | exact .inl rfl | exact .inr rfl) _).mono ?_; rintro e' w' ⟨r, rfl, rfl, k1, k2⟩; first | obtain rfl := k1 rfl | obtain rfl := k2 rfl; clear k1 k2) | (go_at_call 93; refine (NC.out _ (by first | exact .inl rfl | exact .inr rfl) _).mono ?_; rintro e' w' ⟨r, rfl, rfl, k1, k2⟩; first | obtain rfl := k1 rfl | obtain rfl := k2 rfl; clear k1 k2) | fail)
            go_ret
            simp
          · have h := H3.out
            unfold turned narrow at h
            obtain ⟨m, hm, h1⟩ := opf_some h
            obtain ⟨x, hx, h2⟩ := af_some h1
            obtain ⟨y, hy, h9⟩ := af_some h2
            cases h9
            have r0 := r64 hm
            have NC := Lib.hid (snarrow2 hx hy)
            clear hm hx hy h1 h2
            clear h H3
            go_wp2_with (first | (go_at_call 100; refine (C4.out _ (by first | exact .inl rfl | exact .inr rfl) _).mono ?_; rintro e' w' ⟨r, rfl, rfl, k1, k2⟩; first | obtain rfl := k1 rfl | obtain rfl := k2 rfl; clear k1 k2) | (go_at_call 93; refine (NC.out _ (by first | exact .inl rfl | exact .inr rfl) _).mono ?_; rintro e' w' ⟨r, rfl, rfl, k1, k2⟩; first | obtain rfl := k1 rfl | obtain rfl := k2 rfl; clear k1 k2) | fail)
            go_ret
            simp
          · have h := H3.out
            unfold turned narrow at h
            obtain ⟨m, hm, h1⟩ := opf_some h
            obtain ⟨l, hl, h2⟩ := opf_some h1
            obtain ⟨x, hx, h3⟩ := af_some h2
            obtain ⟨y, hy, h9⟩ := af_some h3
            cases h9
            have r0 := r64 hm
            have r3 := r64 hl
            have NC := Lib.hid (snarrow2 hx hy)
            clear hm hl hx hy h1 h2 h3
            clear h H3
            go_wp2_with (first | (go_at_call 100; refine (C4.out _ (by first | exact .inl rfl | exact .inr rfl) _).mono ?_; rintro e' w' ⟨r, rfl, rfl, k1, k2⟩; first | obtain rfl := k1 rfl | obtain rfl := k2 rfl; clear k1 k2) | (go_at_call 93; refine (NC.out _ (by first | exact .inl rfl | exact .inr rfl) _).mono ?_; rintro e' w' ⟨r, rfl, rfl, k1, k2⟩; first | obtain rfl := k1 rfl | obtain rfl := k2 rfl; clear k1 k2) | fail)
            go_ret
            simp
          · have h := H3.out
            unfold turned narrow at h
            obtain ⟨m, hm, h1⟩ := opf_some h
            obtain ⟨x, hx, h2⟩ := af_some h1
            obtain ⟨y, hy, h9⟩ := af_some h2
            cases h9
            have r0 := r64 hm
            have NC := Lib.hid (snarrow2 hx hy)
            clear hm hx hy h1 h2
            clear h H3
            go_wp2_with (first | (go_at_call 100; refine (C4.out _ (by first | exact .inl rfl | exact .inr rfl) _).mono ?_; rintro e' w' ⟨r, rfl, rfl, k1, k2⟩; first | obtain rfl := k1 rfl | obtain rfl := k2 rfl; clear k1 k2) | (go_at_call 93; refine (NC.out _ (by first | exact .inl rfl | exact .inr rfl) _).mono ?_; rintro e' w' ⟨r, rfl, rfl, k1, k2⟩; first | obtain rfl := k1 rfl | obtain rfl := k2 rfl; clear k1 k2) | fail)
            go_ret
            simp
        | true =>
          obtain ⟨k, f2, hk, hf2, hT2⟩ := turnsLeft_go HT.out hge
          have r1 := r64 hf2
          have HT2 := Lib.hid hT2
          have hq3 : q ≤ 3 := by omega
          clear hf2 hT2 HT H3
          rcases ge_trueS hge with ⟨t1, t2⟩ | ⟨t1, t2⟩
          all_goals
            clear hge
            go_wp2
            go_round
            case measure => simp [intOf]; omega
            case rel => exact ⟨f2, q + 1, k, rfl, by go_num, by omega, HT2⟩
end
end Go.Proofs.Ytbpgbplepebcjaa
