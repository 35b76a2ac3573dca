/- Walks: bits of floats, math.Abs, math.Sqrt, math.Floor. Conditions: as each says. -/
import Derived.Test.YtjmidicidgaapaaCc
import Derived.Laws.Externs
import Derived.Laws.BitsAll
namespace Go.Proofs.Ytjmidicidgaapaa
open Go.RowKit
open Circ
open Quick

section
variable (w : World)
theorem run_f64bits (x : Nat) : ∀ w : World, (callFunc 57 #[.float .f64 x]).run Try.prog w = .ok (.value (.int .u64 (x : Int))) w := fun w => by
  rw [run_callFunc_extern (P := Try.prog) (f := 57) (fn := Try.f57) (e := Extern.MathFloatBits.float64bits) (by kernel_rfl) (by kernel_rfl) (by kernel_rfl) (by kernel_rfl) (by kernel_rfl)]
  rfl
theorem run_f64from (x : Nat) : ∀ w : World, (callFunc 56 #[.int .u64 (x : Int)]).run Try.prog w = .ok (.value (.float .f64 x)) w := fun w => by
  rw [run_callFunc_extern (P := Try.prog) (f := 56) (fn := Try.f56) (e := Extern.MathFloatBits.float64frombits) (by kernel_rfl) (by kernel_rfl) (by kernel_rfl) (by kernel_rfl) (by kernel_rfl)]
  rfl
theorem run_sqrt {x r : Nat} (h : FloatKind.f64.format.sqrt x = some r) : ∀ w : World, (callFunc 52 #[.float .f64 x]).run Try.prog w = .ok (.value (.float .f64 r)) w := fun w => by
  rw [run_callFunc_extern (P := Try.prog) (f := 52) (fn := Try.f52) (e := Extern.MathSqrt.sqrt) (by kernel_rfl) (by kernel_rfl) (by kernel_rfl) (by kernel_rfl) (by kernel_rfl)]
  change ((match FloatKind.f64.format.sqrt x with | some r => (pure (.float .f64 r) : Sem Value) | none => do pure (.float .f64 (← choose (.nanBits .f64 x x)))).run Try.prog w).andThen _ = _
  rw [h]
  rfl
theorem abs_calls (x : Nat) (hx : x < 18446744073709551616) : Calls Try.prog 36 #[.float .f64 x] w fun e w' => e = .returned (.float .f64 (absP x)) ∧ w' = w := by
  have h1 := run_f64bits x
  have h2 : bits .andNot .u64 (x : Int) 9223372036854775808 = ((absP x : Nat) : Int) := u64_andNot_nat x 9223372036854775808 hx (by omega)
  have h3 := run_f64from (absP x)
  clear hx
  go_enter Try.func36, Try.ntmps36
  go_wp2
  go_ret
  exact ⟨rfl, rfl⟩
theorem sqrt_calls {x r : Nat} (h : FloatKind.f64.format.sqrt x = some r) : Calls Try.prog 28 #[.float .f64 x] w fun e w' => e = .returned (.float .f64 r) ∧ w' = w := by
  have h1 := run_sqrt h
  clear h
  go_enter Try.func28, Try.ntmps28
  go_wp2
  go_ret
  exact ⟨rfl, rfl⟩
end
end Go.Proofs.Ytjmidicidgaapaa

namespace Go.Proofs.Ytjmidicidgaapaa
open Go.RowKit
open Circ

section
variable (w : World)
theorem finite_calls {t d : Nat} (h : floatBits .sub .f64 t t = some d) (h0 : (FloatKind.f64.format.order d 0 == some .eq) = true) : Calls Try.prog 34 #[.float .f64 t] w fun e w' => e = .returned (.bool true) ∧ w' = w := by
  have h1 := run64 h
  clear h
  go_enter Try.func34, Try.ntmps34
  go_wp2
  go_ret
  exact ⟨rfl, rfl⟩
theorem run_narrow {x r : Nat} (h : Quick.qnarrow x = some r) : ∀ w : World, (convert 40 31 (.float .f64 x)).run Try.prog w = .ok (.float .f32 r) w := fun w => run_convert_float_float w _ _ _ _ _ _ (by rw [Try.underlying40]; rfl) Try.underlying31 ((Quick.qnarrow_eq x).symm.trans h)
set_option maxHeartbeats 4000000 in
theorem phasor_calls {t f a b : Nat} (ht : t < 18446744073709551616) (hc : calm t = true) (hf : fraction t = some f) (h : phaseOf f = some (a, b)) : Calls Try.prog 12 #[.float .f64 t] w fun e w' => e = .returned (.complex .f32 a b) ∧ w' = w := by
  obtain ⟨hc1, hc2⟩ := Bool.and_eq_true_iff.1 hc
  cases e : floatBits .sub .f64 t t with
  | none => rw [e] at hc1; cases hc1
  | some d =>
    rw [e] at hc1
    have hge : ge (absP t) 4841369599423283200 = false := by simpa using hc2
    obtain ⟨g1, g2⟩ := ge_false hge
    have C1 := finite_calls w e hc1
    have C2 := abs_calls w t ht
    have C3 := fraction_calls w hf
    unfold phaseOf at h
    have HT := Lib.hid h
    clear hc hc1 hc2 hge e h hf ht
    go_enter Try.func12, Try.ntmps12
    go_wp2_with (first
      | (go_at_call 34; refine C1.mono ?_; rintro e w1 ⟨rfl, rfl⟩)
      | (go_at_call 36; refine C2.mono ?_; rintro e w1 ⟨rfl, rfl⟩)
      | (go_at_call 37; refine C3.mono ?_; rintro e w1 ⟨rfl, rfl⟩) | fail)
    cases hT : turnsLeft 3 f 0 with
    | none => have := HT.out; rw [hT] at this; cases this
    | some gq =>
      obtain ⟨g, n⟩ := gq
      have h := HT.out
      rw [hT] at h
      obtain ⟨e, he, h1⟩ := opf_some h
      obtain ⟨c, hc, h2⟩ := af_some h1
      obtain ⟨s, hs, h3⟩ := af_some h2
      have q1 := run64 he
      have C4 : ∀ z, z = e ∨ z = g → Calls Try.prog 38 #[.float .f64 z] w1 fun e' w' => ∃ r, e' = .returned (.float .f64 r) ∧ w' = w1 ∧ (z = e → r = c) ∧ (z = g → r = s) := by
        rintro z (rfl | rfl)
        · refine (sine_calls w1 hc).mono ?_
          rintro e' w' ⟨rfl, rfl⟩
          refine ⟨c, rfl, rfl, fun _ => rfl, fun h => ?_⟩
          rw [h, hs] at hc
          exact (Option.some.inj hc).symm
        · refine (sine_calls w1 hs).mono ?_
          rintro e' w' ⟨rfl, rfl⟩
          refine ⟨s, rfl, rfl, fun h => ?_, fun _ => rfl⟩
          rw [← h, hs] at hc
          exact Option.some.inj hc
      have C4 := Lib.hid C4
      have H3 := Lib.hid h3
      have HT2 := Lib.hid hT
      clear HT h he h1 hc h2 hs h3 hT
      go_loopg [4, 5] 3 (fun gk sf sq wr => ∃ (f q : Nat), sf = .float .f64 f ∧ sq = .int .i64 (q : Int) ∧ Hid (q + gk = 3) ∧ Hid (turnsLeft gk f q = some (g, n)) ∧ wr = w1)
      case atStart => exact ⟨f, 0, rfl, rfl, Lib.hid rfl, HT2, rfl⟩
      case round =>
        obtain ⟨f, q, rfl, rfl, HQ, HT, rfl⟩ := hrel
        clear HT2
        cases hge : ge f quarter with
        | false =>
          obtain ⟨g1, g2⟩ := ge_false hge
          have e1 := turnsLeft_stop HT.out hge
          obtain ⟨rfl, rfl⟩ : g = f ∧ n = q := by cases e1; exact ⟨rfl, rfl⟩
          have hq : n ≤ 3 := by have := HQ.out; omega
          clear e1 hge HT HQ
          have hq4 : n = 0 ∨ n = 1 ∨ n = 2 ∨ n = 3 := by omega
          clear hq
          rcases hq4 with rfl | rfl | rfl | rfl
          · have h := H3.out
            unfold turned narrow at h
            obtain ⟨x, hx, h1⟩ := af_some h
            obtain ⟨y, hy, h9⟩ := af_some h1
            cases h9
            have r1 := run_narrow hx
            have r2 := run_narrow hy
            clear hx hy h1
            clear h H3
            go_wp2_with (first | (go_at_call 38; refine (C4.out _ (by first | exact .inl rfl | exact .inr rfl)).mono ?_; rintro e' w' ⟨r, rfl, rfl, k1, k2⟩; first | obtain rfl := k1 rfl | obtain rfl := k2 rfl; clear k1 k2) | fail)
            go_ret
            exact ⟨rfl, rfl⟩
          · have h := H3.out
            unfold turned narrow at h
            obtain ⟨m, hm, h1⟩ := opf_some h
            obtain ⟨x, hx, h2⟩ := af_some h1
            obtain ⟨y, hy, h9⟩ := af_some h2
            cases h9
            have r0 := run64 hm
            have r1 := run_narrow hx
            have r2 := run_narrow hy
            clear hm hx hy h1 h2
            clear h H3
            go_wp2_with (first | (go_at_call 38; refine (C4.out _ (by first | exact .inl rfl | exact .inr rfl)).mono ?_; rintro e' w' ⟨r, rfl, rfl, k1, k2⟩; first | obtain rfl := k1 rfl | obtain rfl := k2 rfl; clear k1 k2) | fail)
            go_ret
            exact ⟨rfl, rfl⟩
          · have h := H3.out
            unfold turned narrow at h
            obtain ⟨m, hm, h1⟩ := opf_some h
            obtain ⟨l, hl, h2⟩ := opf_some h1
            obtain ⟨x, hx, h3⟩ := af_some h2
            obtain ⟨y, hy, h9⟩ := af_some h3
            cases h9
            have r0 := run64 hm
            have r3 := run64 hl
            have r1 := run_narrow hx
            have r2 := run_narrow hy
            clear hm hl hx hy h1 h2 h3
            clear h H3
            go_wp2_with (first | (go_at_call 38; refine (C4.out _ (by first | exact .inl rfl | exact .inr rfl)).mono ?_; rintro e' w' ⟨r, rfl, rfl, k1, k2⟩; first | obtain rfl := k1 rfl | obtain rfl := k2 rfl; clear k1 k2) | fail)
            go_ret
            exact ⟨rfl, rfl⟩
          · have h := H3.out
            unfold turned narrow at h
            obtain ⟨m, hm, h1⟩ := opf_some h
            obtain ⟨x, hx, h2⟩ := af_some h1
            obtain ⟨y, hy, h9⟩ := af_some h2
            cases h9
            have r0 := run64 hm
            have r1 := run_narrow hx
            have r2 := run_narrow hy
            clear hm hx hy h1 h2
            clear h H3
            go_wp2_with (first | (go_at_call 38; refine (C4.out _ (by first | exact .inl rfl | exact .inr rfl)).mono ?_; rintro e' w' ⟨r, rfl, rfl, k1, k2⟩; first | obtain rfl := k1 rfl | obtain rfl := k2 rfl; clear k1 k2) | fail)
            go_ret
            exact ⟨rfl, rfl⟩
        | true =>
          obtain ⟨k, f2, hk, hf2, hT2⟩ := turnsLeft_go HT.out hge
          have r1 := run64 hf2
          have HR := Lib.hid (show q + 1 + k = 3 ∧ k < gk by have := HQ.out; omega)
          have HT2 := Lib.hid hT2
          have hq3 : q ≤ 3 := by have := HQ.out; omega
          clear hk hf2 hT2 HQ HT H3
          rcases ge_true hge with ⟨t1, t2⟩ | ⟨t1, t2⟩
          all_goals
            clear hge
            go_wp2
            go_roundg k
            case measure => exact HR.out.2
            case rel => exact ⟨f2, q + 1, rfl, by first | rfl | (simp; done) | (simp; omega), Lib.hid HR.out.1, HT2, rfl⟩
end
end Go.Proofs.Ytjmidicidgaapaa

namespace Go.Proofs.Ytjmidicidgaapaa
open Go.RowKit
open Circ

section
variable (w : World)
theorem run_widen {x r : Nat} (h : Quick.qwide x = some r) : ∀ w : World, (convert 31 40 (.float .f32 x)).run Try.prog w = .ok (.float .f64 r) w := fun w => run_convert_float_float w _ _ _ _ _ _ (by rw [Try.underlying31]; rfl) Try.underlying40 ((Quick.qwide_eq x).symm.trans h)
theorem parts_calls {a b x y : Nat} (ha : Quick.qwide a = some x) (hb : Quick.qwide b = some y) : Calls Try.prog 53 #[.complex .f32 a b] w fun e w' => e = .returned (.tuple #[.float .f64 x, .float .f64 y]) ∧ w' = w := by
  have h1 := run_widen ha
  have h2 := run_widen hb
  clear ha hb
  go_enter Try.func53, Try.ntmps53
  go_wp2
  go_ret2
  exact ⟨rfl, rfl⟩
theorem times_calls {a b c d p q u r s v : Nat} (h1 : floatBits .mul .f64 a c = some p) (h2 : floatBits .mul .f64 b d = some q) (h3 : floatBits .sub .f64 p q = some u) (h4 : floatBits .mul .f64 a d = some r) (h5 : floatBits .mul .f64 b c = some s) (h6 : floatBits .add .f64 r s = some v) :
    Calls Try.prog 60 #[.float .f64 a, .float .f64 b, .float .f64 c, .float .f64 d] w fun e w' => e = .returned (.tuple #[.float .f64 u, .float .f64 v]) ∧ w' = w := by
  have q1 := run64 h1
  have q2 := run64 h2
  have q3 := run64 h3
  have q4 := run64 h4
  have q5 := run64 h5
  have q6 := run64 h6
  clear h1 h2 h3 h4 h5 h6
  go_enter Try.func60, Try.ntmps60
  go_wp2
  go_ret2
  exact ⟨rfl, rfl⟩
theorem power_calls {a b x y p q u : Nat} (ha : Quick.qwide a = some x) (hb : Quick.qwide b = some y) (h1 : floatBits .mul .f64 x x = some p) (h2 : floatBits .mul .f64 y y = some q) (h3 : floatBits .add .f64 p q = some u) :
    Calls Try.prog 29 #[.complex .f32 a b] w fun e w' => e = .returned (.float .f64 u) ∧ w' = w := by
  have C1 := parts_calls w ha hb
  have q1 := run64 h1
  have q2 := run64 h2
  have q3 := run64 h3
  clear ha hb h1 h2 h3
  go_enter Try.func29, Try.ntmps29
  go_wp2_with (first | (go_at_call 53; refine C1.mono ?_; rintro e w1 ⟨rfl, rfl⟩) | fail)
  go_ret
  exact ⟨rfl, rfl⟩
theorem powerOf_calls {a b r : Nat} (h : powC a b = some r) : Calls Try.prog 47 #[.complex .f32 a b] w fun e w' => e = .returned (.float .f32 r) ∧ w' = w := by
  unfold powC wide narrow at h
  obtain ⟨x, hx, h1⟩ := af_some h
  obtain ⟨y, hy, h2⟩ := af_some h1
  obtain ⟨p, hp, h3⟩ := opf_some h2
  obtain ⟨q, hq, h4⟩ := opf_some h3
  obtain ⟨u, hu, h5⟩ := opf_some h4
  obtain ⟨v, hv, h6⟩ := af_some h5
  cases h6
  have C1 := power_calls w hx hy hp hq hu
  have q1 := run_narrow hv
  clear h h1 h2 h3 h4 h5 hx hy hp hq hu hv
  go_enter Try.func47, Try.ntmps47
  go_wp2_with (first | (go_at_call 29; refine C1.mono ?_; rintro e w1 ⟨rfl, rfl⟩) | fail)
  go_ret
  exact ⟨rfl, rfl⟩
theorem mul_calls {a b c d x y : Nat} (h : mulC a b c d = some (x, y)) : Calls Try.prog 44 #[.complex .f32 a b, .complex .f32 c d] w fun e w' => e = .returned (.complex .f32 x y) ∧ w' = w := by
  unfold mulC wide narrow at h
  obtain ⟨a2, ha, h1⟩ := af_some h
  obtain ⟨b2, hb, h2⟩ := af_some h1
  obtain ⟨c2, hc, h3⟩ := af_some h2
  obtain ⟨d2, hd, h4⟩ := af_some h3
  obtain ⟨p, hp, h5⟩ := opf_some h4
  obtain ⟨q, hq, h6⟩ := opf_some h5
  obtain ⟨u, hu, h7⟩ := opf_some h6
  obtain ⟨r, hr, h8⟩ := opf_some h7
  obtain ⟨s, hs, h9⟩ := opf_some h8
  obtain ⟨v, hv, h10⟩ := opf_some h9
  obtain ⟨m, hm, h11⟩ := af_some h10
  obtain ⟨n, hn, h12⟩ := af_some h11
  cases h12
  have T1 := times_calls w hp hq hu hr hs hv
  have q1 := run_narrow hm
  have q2 := run_narrow hn
  have P : ∀ α β : Nat, (α = a ∧ β = b) ∨ (α = c ∧ β = d) → Calls Try.prog 53 #[.complex .f32 α β] w fun e' w' => ∃ r1 r2, e' = .returned (.tuple #[.float .f64 r1, .float .f64 r2]) ∧ w' = w ∧ (α = a → β = b → r1 = a2 ∧ r2 = b2) ∧ (α = c → β = d → r1 = c2 ∧ r2 = d2) := by
    rintro α β (⟨rfl, rfl⟩ | ⟨rfl, rfl⟩)
    · refine (parts_calls w ha hb).mono ?_
      rintro e' w' ⟨rfl, rfl⟩
      refine ⟨a2, b2, rfl, rfl, fun _ _ => ⟨rfl, rfl⟩, fun e1 e2 => ?_⟩
      rw [e1, hc] at ha
      rw [e2, hd] at hb
      exact ⟨(Option.some.inj ha).symm, (Option.some.inj hb).symm⟩
    · refine (parts_calls w hc hd).mono ?_
      rintro e' w' ⟨rfl, rfl⟩
      refine ⟨c2, d2, rfl, rfl, fun e1 e2 => ?_, fun _ _ => ⟨rfl, rfl⟩⟩
      rw [e1, ha] at hc
      rw [e2, hb] at hd
      exact ⟨(Option.some.inj hc).symm, (Option.some.inj hd).symm⟩
  have P := Lib.hid P
  clear h h1 h2 h3 h4 h5 h6 h7 h8 h9 h10 h11 ha hb hc hd hp hq hu hr hs hv hm hn
  go_enter Try.func44, Try.ntmps44
  go_wp2_with (first
    | (go_at_call 53; refine (P.out _ _ (by first | exact .inl ⟨rfl, rfl⟩ | exact .inr ⟨rfl, rfl⟩)).mono ?_; rintro e' w' ⟨r1, r2, rfl, rfl, k1, k2⟩; first | obtain ⟨rfl, rfl⟩ := k1 rfl rfl | obtain ⟨rfl, rfl⟩ := k2 rfl rfl; clear k1 k2)
    | (go_at_call 60; refine T1.mono ?_; rintro e w1 ⟨rfl, rfl⟩) | fail)
  go_ret
  exact ⟨rfl, rfl⟩
theorem le_true {x y : Nat} (h : le x y = true) : ((FloatKind.f64.format.order x y == some .lt) = true ∧ (FloatKind.f64.format.order x y == some .eq) = false) ∨ ((FloatKind.f64.format.order x y == some .lt) = false ∧ (FloatKind.f64.format.order x y == some .eq) = true) := by
  rw [le_eq] at h
  cases e : FloatKind.f64.format.order x y with
  | none => rw [e] at h; cases h
  | some o => rw [e] at h; cases o <;> first | (cases h; done) | decide
end
end Go.Proofs.Ytjmidicidgaapaa
