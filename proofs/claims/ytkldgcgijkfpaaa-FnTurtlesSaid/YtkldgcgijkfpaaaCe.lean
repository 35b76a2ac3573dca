/- Walk: phasors. Conditions: the plain function gives numbers. -/
import Derived.Test.YtkldgcgijkfpaaaCd
namespace Go.Proofs.Ytkldgcgijkfpaaa
open Go.RowKit
open Circ

section
variable (w : World)
theorem finite_calls {t d : Nat} (h : floatBits .sub .f64 t t = some d) (h0 : (FloatKind.f64.format.order d 0 == some .eq) = true) : Calls Try.prog 66 #[.float .f64 t] w fun e w' => e = .returned (.bool true) ∧ w' = w := by
  have h1 := run64 h
  clear h
  go_enter Try.func66, Try.ntmps66
  go_wp2
  go_ret
  exact ⟨rfl, rfl⟩
theorem run_narrow {x r : Nat} (h : Quick.qnarrow x = some r) : ∀ w : World, (convert 34 25 (.float .f64 x)).run Try.prog w = .ok (.float .f32 r) w := fun w => run_convert_float_float w _ _ _ _ _ _ (by rw [Try.underlying34]; rfl) Try.underlying25 ((Quick.qnarrow_eq x).symm.trans h)
set_option maxHeartbeats 4000000 in
theorem phasor_calls {t f a b : Nat} (ht : t < 18446744073709551616) (hc : calm t = true) (hf : fraction t = some f) (h : phaseOf f = some (a, b)) : Calls Try.prog 44 #[.float .f64 t] w fun e w' => e = .returned (.complex .f32 a b) ∧ w' = w := by
  obtain ⟨hc1, hc2⟩ := Bool.and_eq_true_iff.1 hc
  cases e : floatBits .sub .f64 t t with
  | none => rw [e] at hc1; cases hc1
  | some d =>
    rw [e] at hc1
    have hge : ge (absP t) 4841369599423283200 = false := by simpa using hc2
    obtain ⟨g1, g2⟩ := ge_false hge
    have C1 := finite_calls w e hc1
    have C2 := abs_calls w t ht
    have C3 := fraction_calls w hf
    unfold phaseOf at h
    have HT := Lib.hid h
    clear hc hc1 hc2 hge e h hf ht
    go_enter Try.func44, Try.ntmps44
    go_wp2_with (first
      | (go_at_call 66; refine C1.mono ?_; rintro e w1 ⟨rfl, rfl⟩)
      | (go_at_call 68; refine C2.mono ?_; rintro e w1 ⟨rfl, rfl⟩)
      | (go_at_call 69; refine C3.mono ?_; rintro e w1 ⟨rfl, rfl⟩) | fail)
    cases hT : turnsLeft 3 f 0 with
    | none => have := HT.out; rw [hT] at this; cases this
    | some gq =>
      obtain ⟨g, n⟩ := gq
      have h := HT.out
      rw [hT] at h
      obtain ⟨e, he, h1⟩ := opf_some h
      obtain ⟨c, hc, h2⟩ := af_some h1
      obtain ⟨s, hs, h3⟩ := af_some h2
      have q1 := run64 he
      have C4 : ∀ z, z = e ∨ z = g → Calls Try.prog 70 #[.float .f64 z] w1 fun e' w' => ∃ r, e' = .returned (.float .f64 r) ∧ w' = w1 ∧ (z = e → r = c) ∧ (z = g → r = s) := by
        rintro z (rfl | rfl)
        · refine (sine_calls w1 hc).mono ?_
          rintro e' w' ⟨rfl, rfl⟩
          refine ⟨c, rfl, rfl, fun _ => rfl, fun h => ?_⟩
          rw [h, hs] at hc
          exact (Option.some.inj hc).symm
        · refine (sine_calls w1 hs).mono ?_
          rintro e' w' ⟨rfl, rfl⟩
          refine ⟨s, rfl, rfl, fun h => ?_, fun _ => rfl⟩
          rw [← h, hs] at hc
          exact Option.some.inj hc
      have C4 := Lib.hid C4
      have H3 := Lib.hid h3
      have HT2 := Lib.hid hT
      clear HT h he h1 hc h2 hs h3 hT
      go_loopg [4, 5] 3 (fun gk sf sq wr => ∃ (f q : Nat), sf = .float .f64 f ∧ sq = .int .i64 (q : Int) ∧ Hid (q + gk = 3) ∧ Hid (turnsLeft gk f q = some (g, n)) ∧ wr = w1)
      case atStart => exact ⟨f, 0, rfl, rfl, Lib.hid rfl, HT2, rfl⟩
      case round =>
        obtain ⟨f, q, rfl, rfl, HQ, HT, rfl⟩ := hrel
        clear HT2
        cases hge : ge f quarter with
        | false =>
          obtain ⟨g1, g2⟩ := ge_false hge
          have e1 := turnsLeft_stop HT.out hge
          obtain ⟨rfl, rfl⟩ : g = f ∧ n = q := by cases e1; exact ⟨rfl, rfl⟩
          have hq : n ≤ 3 := by have := HQ.out; omega
          clear e1 hge HT HQ
          have hq4 : n = 0 ∨ n = 1 ∨ n = 2 ∨ n = 3 := by omega
          clear hq
          rcases hq4 with rfl | rfl | rfl | rfl
          · have h := H3.out
            unfold turned narrow at h
            obtain ⟨x, hx, h1⟩ := af_some h
            obtain ⟨y, hy, h9⟩ := af_some h1
            cases h9
            have r1 := run_narrow hx
            have r2 := run_narrow hy
            clear hx hy h1
            clear h H3
            go_wp2_with (first | (go_at_call 70; refine (C4.out _ (by first | exact .inl rfl | exact .inr rfl)).mono ?_; rintro e' w' ⟨r, rfl, rfl, k1, k2⟩; first | obtain rfl := k1 rfl | obtain rfl := k2 rfl; clear k1 k2) | fail)
            go_ret
            exact ⟨rfl, rfl⟩
          · have h := H3.out
            unfold turned narrow at h
            obtain ⟨m, hm, h1⟩ := opf_some h
            obtain ⟨x, hx, h2⟩ := af_some h1
            obtain ⟨y, hy, h9⟩ := af_some h2
            cases h9
            have r0 := run64 hm
            have r1 := run_narrow hx
            have r2 := run_narrow hy
            clear hm hx hy h1 h2
            clear h H3
            go_wp2_with (first | (go_at_call 70; refine (C4.out _ (by first | exact .inl rfl | exact .inr rfl)).mono ?_; rintro e' w' ⟨r, rfl, rfl, k1, k2⟩; first | obtain rfl := k1 rfl | obtain rfl := k2 rfl; clear k1 k2) | fail)
            go_ret
            exact ⟨rfl, rfl⟩
          · have h := H3.out
            unfold turned narrow at h
            obtain ⟨m, hm, h1⟩ := opf_some h
            obtain ⟨l, hl, h2⟩ := opf_some h1
            obtain ⟨x, hx, h3⟩ := af_some h2
            obtain ⟨y, hy, h9⟩ := af_some h3
            cases h9
            have r0 := run64 hm
            have r3 := run64 hl
            have r1 := run_narrow hx
            have r2 := run_narrow hy
            clear hm hl hx hy h1 h2 h3
            clear h H3
            go_wp2_with (first | (go_at_call 70; refine (C4.out _ (by first | exact .inl rfl | exact .inr rfl)).mono ?_; rintro e' w' ⟨r, rfl, rfl, k1, k2⟩; first | obtain rfl := k1 rfl | obtain rfl := k2 rfl; clear k1 k2) | fail)
            go_ret
            exact ⟨rfl, rfl⟩
          · have h := H3.out
            unfold turned narrow at h
            obtain ⟨m, hm, h1⟩ := opf_some h
            obtain ⟨x, hx, h2⟩ := af_some h1
            obtain ⟨y, hy, h9⟩ := af_some h2
            cases h9
            have r0 := run64 hm
            have r1 := run_narrow hx
            have r2 := run_narrow hy
            clear hm hx hy h1 h2
            clear h H3
            go_wp2_with (first | (go_at_call 70; refine (C4.out _ (by first | exact .inl rfl | exact .inr rfl)).mono ?_; rintro e' w' ⟨r, rfl, rfl, k1, k2⟩; first | obtain rfl := k1 rfl | obtain rfl := k2 rfl; clear k1 k2) | fail)
            go_ret
            exact ⟨rfl, rfl⟩
        | true =>
          obtain ⟨k, f2, hk, hf2, hT2⟩ := turnsLeft_go HT.out hge
          have r1 := run64 hf2
          have HR := Lib.hid (show q + 1 + k = 3 ∧ k < gk by have := HQ.out; omega)
          have HT2 := Lib.hid hT2
          have hq3 : q ≤ 3 := by have := HQ.out; omega
          clear hk hf2 hT2 HQ HT H3
          rcases ge_true hge with ⟨t1, t2⟩ | ⟨t1, t2⟩
          all_goals
            clear hge
            go_wp2
            go_roundg k
            case measure => exact HR.out.2
            case rel => exact ⟨f2, q + 1, rfl, by first | rfl | (simp; done) | (simp; omega), Lib.hid HR.out.1, HT2, rfl⟩
end
end Go.Proofs.Ytkldgcgijkfpaaa
