/- Walk: products, powers and gaps. Conditions: the plain function gives numbers. -/
import Derived.Test.YtflcjmgenfmhkaaCe
namespace Go.Proofs.Ytflcjmgenfmhkaa
open Go.RowKit
open Circ

section
variable (w : World)
theorem run_widen {x r : Nat} (h : Quick.qwide x = some r) : ∀ w : World, (convert 28 27 (.float .f32 x)).run Try.prog w = .ok (.float .f64 r) w := fun w => run_convert_float_float w _ _ _ _ _ _ (by rw [Try.underlying28]; rfl) Try.underlying27 ((Quick.qwide_eq x).symm.trans h)
theorem parts_calls {a b x y : Nat} (ha : Quick.qwide a = some x) (hb : Quick.qwide b = some y) : Calls Try.prog 21 #[.complex .f32 a b] w fun e w' => e = .returned (.tuple #[.float .f64 x, .float .f64 y]) ∧ w' = w := by
  have h1 := run_widen ha
  have h2 := run_widen hb
  clear ha hb
  go_enter Try.func21, Try.ntmps21
  go_wp2
  go_ret2
  exact ⟨rfl, rfl⟩
theorem times_calls {a b c d p q u r s v : Nat} (h1 : floatBits .mul .f64 a c = some p) (h2 : floatBits .mul .f64 b d = some q) (h3 : floatBits .sub .f64 p q = some u) (h4 : floatBits .mul .f64 a d = some r) (h5 : floatBits .mul .f64 b c = some s) (h6 : floatBits .add .f64 r s = some v) :
    Calls Try.prog 22 #[.float .f64 a, .float .f64 b, .float .f64 c, .float .f64 d] w fun e w' => e = .returned (.tuple #[.float .f64 u, .float .f64 v]) ∧ w' = w := by
  have q1 := run64 h1
  have q2 := run64 h2
  have q3 := run64 h3
  have q4 := run64 h4
  have q5 := run64 h5
  have q6 := run64 h6
  clear h1 h2 h3 h4 h5 h6
  go_enter Try.func22, Try.ntmps22
  go_wp2
  go_ret2
  exact ⟨rfl, rfl⟩
theorem gap_calls {a b r : Nat} (h : gap a b = some r) : Calls Try.prog 8 #[.float .f64 a, .float .f64 b] w fun e w' => e = .returned (.float .f64 r) ∧ w' = w := by
  unfold gap at h
  by_cases c : lt a b = true
  · rw [if_pos c] at h
    obtain ⟨x, hx, h1⟩ := opf_some h
    cases h1
    have q1 := run64 hx
    rw [lt_eq] at c
    clear h hx
    go_enter Try.func8, Try.ntmps8
    go_wp2
    go_ret
    exact ⟨rfl, rfl⟩
  · rw [if_neg c] at h
    obtain ⟨x, hx, h1⟩ := opf_some h
    cases h1
    have q1 := run64 hx
    rw [lt_eq] at c
    clear h hx
    go_enter Try.func8, Try.ntmps8
    go_wp2
    go_ret
    exact ⟨rfl, rfl⟩
theorem power_calls {a b x y p q u : Nat} (ha : Quick.qwide a = some x) (hb : Quick.qwide b = some y) (h1 : floatBits .mul .f64 x x = some p) (h2 : floatBits .mul .f64 y y = some q) (h3 : floatBits .add .f64 p q = some u) :
    Calls Try.prog 20 #[.complex .f32 a b] w fun e w' => e = .returned (.float .f64 u) ∧ w' = w := by
  have C1 := parts_calls w ha hb
  have q1 := run64 h1
  have q2 := run64 h2
  have q3 := run64 h3
  clear ha hb h1 h2 h3
  go_enter Try.func20, Try.ntmps20
  go_wp2_with (first | (go_at_call 21; refine C1.mono ?_; rintro e w1 ⟨rfl, rfl⟩) | fail)
  go_ret
  exact ⟨rfl, rfl⟩
theorem powerOf_calls {a b r : Nat} (h : powC a b = some r) : Calls Try.prog 9 #[.complex .f32 a b] w fun e w' => e = .returned (.float .f32 r) ∧ w' = w := by
  unfold powC wide narrow at h
  obtain ⟨x, hx, h1⟩ := af_some h
  obtain ⟨y, hy, h2⟩ := af_some h1
  obtain ⟨p, hp, h3⟩ := opf_some h2
  obtain ⟨q, hq, h4⟩ := opf_some h3
  obtain ⟨u, hu, h5⟩ := opf_some h4
  obtain ⟨v, hv, h6⟩ := af_some h5
  cases h6
  have C1 := power_calls w hx hy hp hq hu
  have q1 := run_narrow hv
  clear h h1 h2 h3 h4 h5 hx hy hp hq hu hv
  go_enter Try.func9, Try.ntmps9
  go_wp2_with (first | (go_at_call 20; refine C1.mono ?_; rintro e w1 ⟨rfl, rfl⟩) | fail)
  go_ret
  exact ⟨rfl, rfl⟩
theorem mul_calls {a b c d x y : Nat} (h : mulC a b c d = some (x, y)) : Calls Try.prog 11 #[.complex .f32 a b, .complex .f32 c d] w fun e w' => e = .returned (.complex .f32 x y) ∧ w' = w := by
  unfold mulC wide narrow at h
  obtain ⟨a2, ha, h1⟩ := af_some h
  obtain ⟨b2, hb, h2⟩ := af_some h1
  obtain ⟨c2, hc, h3⟩ := af_some h2
  obtain ⟨d2, hd, h4⟩ := af_some h3
  obtain ⟨p, hp, h5⟩ := opf_some h4
  obtain ⟨q, hq, h6⟩ := opf_some h5
  obtain ⟨u, hu, h7⟩ := opf_some h6
  obtain ⟨r, hr, h8⟩ := opf_some h7
  obtain ⟨s, hs, h9⟩ := opf_some h8
  obtain ⟨v, hv, h10⟩ := opf_some h9
  obtain ⟨m, hm, h11⟩ := af_some h10
  obtain ⟨n, hn, h12⟩ := af_some h11
  cases h12
  have T1 := times_calls w hp hq hu hr hs hv
  have q1 := run_narrow hm
  have q2 := run_narrow hn
  have P : ∀ α β : Nat, (α = a ∧ β = b) ∨ (α = c ∧ β = d) → Calls Try.prog 21 #[.complex .f32 α β] w fun e' w' => ∃ r1 r2, e' = .returned (.tuple #[.float .f64 r1, .float .f64 r2]) ∧ w' = w ∧ (α = a → β = b → r1 = a2 ∧ r2 = b2) ∧ (α = c → β = d → r1 = c2 ∧ r2 = d2) := by
    rintro α β (⟨rfl, rfl⟩ | ⟨rfl, rfl⟩)
    · refine (parts_calls w ha hb).mono ?_
      rintro e' w' ⟨rfl, rfl⟩
      refine ⟨a2, b2, rfl, rfl, fun _ _ => ⟨rfl, rfl⟩, fun e1 e2 => ?_⟩
      rw [e1, hc] at ha
      rw [e2, hd] at hb
      exact ⟨(Option.some.inj ha).symm, (Option.some.inj hb).symm⟩
    · refine (parts_calls w hc hd).mono ?_
      rintro e' w' ⟨rfl, rfl⟩
      refine ⟨c2, d2, rfl, rfl, fun e1 e2 => ?_, fun _ _ => ⟨rfl, rfl⟩⟩
      rw [e1, ha] at hc
      rw [e2, hb] at hd
      exact ⟨(Option.some.inj hc).symm, (Option.some.inj hd).symm⟩
  have P := Lib.hid P
  clear h h1 h2 h3 h4 h5 h6 h7 h8 h9 h10 h11 ha hb hc hd hp hq hu hr hs hv hm hn
  go_enter Try.func11, Try.ntmps11
  go_wp2_with (first
    | (go_at_call 21; refine (P.out _ _ (by first | exact .inl ⟨rfl, rfl⟩ | exact .inr ⟨rfl, rfl⟩)).mono ?_; rintro e' w' ⟨r1, r2, rfl, rfl, k1, k2⟩; first | obtain ⟨rfl, rfl⟩ := k1 rfl rfl | obtain ⟨rfl, rfl⟩ := k2 rfl rfl; clear k1 k2)
    | (go_at_call 22; refine T1.mono ?_; rintro e w1 ⟨rfl, rfl⟩) | fail)
  go_ret
  exact ⟨rfl, rfl⟩
theorem le_true {x y : Nat} (h : le x y = true) : ((FloatKind.f64.format.order x y == some .lt) = true ∧ (FloatKind.f64.format.order x y == some .eq) = false) ∨ ((FloatKind.f64.format.order x y == some .lt) = false ∧ (FloatKind.f64.format.order x y == some .eq) = true) := by
  rw [le_eq] at h
  cases e : FloatKind.f64.format.order x y with
  | none => rw [e] at h; cases h
  | some o => rw [e] at h; cases o <;> first | (cases h; done) | decide
end
end Go.Proofs.Ytflcjmgenfmhkaa
