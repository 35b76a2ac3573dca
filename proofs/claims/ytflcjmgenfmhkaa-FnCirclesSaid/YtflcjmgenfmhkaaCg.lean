/- Walk: whether two complex numbers are near. Conditions: the plain function says so. -/
import Derived.Test.YtflcjmgenfmhkaaCf
namespace Go.Proofs.Ytflcjmgenfmhkaa
open Go.RowKit
open Circ

section
variable (w : World)
set_option maxHeartbeats 1000000 in
theorem near_calls {a b c d m : Nat} (h : nearC a b c d m = some 1) : Calls Try.prog 10 #[.complex .f32 a b, .complex .f32 c d, .float .f64 m] w fun e w' => e = .returned (.bool true) ∧ w' = w := by
  unfold nearC wide at h
  obtain ⟨a2, ha, h1⟩ := af_some h
  obtain ⟨b2, hb, h2⟩ := af_some h1
  obtain ⟨c2, hc, h3⟩ := af_some h2
  obtain ⟨d2, hd, h4⟩ := af_some h3
  obtain ⟨p, hp, h5⟩ := af_some h4
  obtain ⟨q, hq, h6⟩ := af_some h5
  have h7 : (le p m && le q m) = true := by
    cases hh : (le p m && le q m) with
    | true => rfl
    | false => rw [hh] at h6; cases h6
  obtain ⟨lp, lq⟩ := Bool.and_eq_true_iff.1 h7
  have r1 := run_widen ha
  have r2 := run_widen hb
  have r3 := run_widen hc
  have r4 := run_widen hd
  have G : ∀ α β : Nat, (α = a2 ∧ β = c2) ∨ (α = b2 ∧ β = d2) → Calls Try.prog 8 #[.float .f64 α, .float .f64 β] w fun e' w' => ∃ r, e' = .returned (.float .f64 r) ∧ w' = w ∧ (α = a2 → β = c2 → r = p) ∧ (α = b2 → β = d2 → r = q) := by
    rintro α β (⟨rfl, rfl⟩ | ⟨rfl, rfl⟩)
    · refine (gap_calls w hp).mono ?_
      rintro e' w' ⟨rfl, rfl⟩
      refine ⟨p, rfl, rfl, fun _ _ => rfl, fun e1 e2 => ?_⟩
      rw [e1, e2, hq] at hp
      exact (Option.some.inj hp).symm
    · refine (gap_calls w hq).mono ?_
      rintro e' w' ⟨rfl, rfl⟩
      refine ⟨q, rfl, rfl, fun e1 e2 => ?_, fun _ _ => rfl⟩
      rw [e1, e2, hp] at hq
      exact (Option.some.inj hq).symm
  have G := Lib.hid G
  clear h h1 h2 h3 h4 h5 h6 h7 ha hb hc hd hp hq
  rcases le_true lp with ⟨t1, t2⟩ | ⟨t1, t2⟩ <;> rcases le_true lq with ⟨t3, t4⟩ | ⟨t3, t4⟩
  all_goals
    clear lp lq
    go_enter Try.func10, Try.ntmps10
    go_wp2_with (first
      | (go_at_call 8; refine (G.out _ _ (by first | exact .inl ⟨rfl, rfl⟩ | exact .inr ⟨rfl, rfl⟩)).mono ?_; rintro e' w' ⟨r, rfl, rfl, k1, k2⟩; first | obtain rfl := k1 rfl rfl | obtain rfl := k2 rfl rfl; clear k1 k2)
      | fail)
    go_ret
    exact ⟨rfl, rfl⟩
end
end Go.Proofs.Ytflcjmgenfmhkaa
