/- Walks: logarithms of singles; counts without steps. Conditions: as each says. -/
import Derived.Test.YtjmidicidgaapaaEf
import Derived.Test.YtjmidicidgaapaaEc
import Derived.Test.YtjmidicidgaapaaCh
namespace Go.Proofs.Ytjmidicidgaapaa
open Go.RowKit
open Num Quick
attribute [local go_sem] run_store_fl run_store_cx

/-- A number of the wide one's logarithm. -/
theorem LogNumber_of {x y v r : Nat} (hx : Fl .f32 x) (hp : 0 < Num.fv .f32 x) (h1 : qwide x = some y) (h2 : Circ.logP y = some v) (h3 : qnarrow v = some r) (w : World) : Calls Try.prog 48 #[.float .f32 x] w fun e w' => e = .returned (.float .f32 r) ∧ w' = w := by
  have e1 : (FloatKind.f32.format.order x 0 == some .eq) = false := by rw [cmp_gt' hx c0.1 (by rw [c0.2]; exact hp)]; decide
  have e2 : (FloatKind.f32.format.order x 0 == some .lt) = false := by rw [cmp_gt' hx c0.1 (by rw [c0.2]; exact hp)]; decide
  have e3 : (FloatKind.f32.format.order x x != some .eq) = false := by rw [cmp_eq' hx hx rfl]; decide
  have F := Lib.hid (isFinite_num hx w)
  have q1 := rWide h1
  have q2 := rNarrow h3
  have L := Lib.hid (fun w => log_calls (w := w) h2)
  clear h1 h2 h3 hx hp
  go_enter Try.func48, Try.ntmps48
  go_wp2_with fail
  refine F.out.mono ?_
  rintro e w1 ⟨rfl, hw1⟩
  obtain rfl := hw1.symm
  go_wp2_with fail
  refine (L.out _).mono ?_
  rintro e w2 ⟨rfl, hw2⟩
  obtain rfl := hw2.symm
  go_wp2
  go_ret
  exact ⟨rfl, rfl⟩
theorem log32 {x : Nat} {a b : Nat} (hb : b ≤ 16) (hx : Fl .f32 x) (h1 : Num.fv .f32 x ≤ ((2 ^ b : Nat) : Rat)) (h2 : a = 0 ∨ ((2 ^ a : Nat) : Rat) ≤ Num.fv .f32 x) (h3 : 1 / 4 ≤ Num.fv .f32 x) :
    ∃ r, (∀ w : World, Calls Try.prog 48 #[.float .f32 x] w fun e w' => e = .returned (.float .f32 r) ∧ w' = w) ∧ Fl .f32 r ∧ (if a = 0 then (-2 : Rat) else (a : Rat)) * (693 / 1000) - 37 / 100 ≤ Num.fv .f32 r ∧ Num.fv .f32 r ≤ (b : Rat) * (694 / 1000) + 77 / 100 := by
  obtain ⟨y, y1, y2, y3, y4⟩ := fwide hx
  obtain ⟨v, v1, v2, v3, v4⟩ := log_num (a := a) hb y2 (by rw [y4]; exact h1) (by rw [y4]; exact h2) (by rw [y4]; exact h3)
  have hbr : (b : Rat) ≤ 16 := by
    have : ((b : Nat) : Rat) ≤ ((16 : Nat) : Rat) := Rat.natCast_le_natCast.2 hb
    exact this
  have har : (-2 : Rat) ≤ (if a = 0 then (-2 : Rat) else (a : Rat)) := by
    split
    · exact Rat.le_refl
    · have : (0 : Rat) ≤ (a : Rat) := Rat.natCast_nonneg
      grind
  generalize (if a = 0 then (-2 : Rat) else (a : Rat)) = A at *
  have t : (100 : Rat) ≤ top := by decide +kernel
  obtain ⟨T, eT⟩ : ∃ T : Rat, top = T := ⟨_, rfl⟩
  rw [eT] at t
  obtain ⟨r, r1, r2⟩ := fnarrow v2 (by rw [eT]; grind) (by rw [eT]; grind)
  have n1 := r2.near32 4 (by decide) (by decide) (by rw [show p2 4 = 16 by decide +kernel]; grind) (by rw [show p2 4 = 16 by decide +kernel]; grind)
  have pe : p2 (4 - 24) ≤ 1 / 1000 := by decide +kernel
  refine ⟨r, fun w => LogNumber_of hx (by grind) y1 v1 r1 w, r2.fin, ?_, ?_⟩
  · generalize Num.fv .f32 r = rr at *
    generalize p2 (4 - 24) = E at *
    grind
  · generalize Num.fv .f32 r = rr at *
    generalize p2 (4 - 24) = E at *
    grind
theorem base_log (x : Nat) (hx : x = 1073741824 ∨ x = 1077936128) : ∃ r, (∀ w : World, Calls Try.prog 48 #[.float .f32 x] w fun e w' => e = .returned (.float .f32 r) ∧ w' = w) ∧ Fl .f32 r ∧ 69 / 100 ≤ Num.fv .f32 r ∧ Num.fv .f32 r ≤ 11 / 10 := by
  have c2 : Fl .f32 1073741824 ∧ 0 < Num.fv .f32 1073741824 := by
    refine ⟨?_, ?_⟩
    · show (1073741824 : Nat) % FloatKind.f32.format.signWeight < FloatKind.f32.format.infRung
      decide +kernel
    · unfold Num.fv val rv p2
      decide +kernel
  have c3 : Fl .f32 1077936128 ∧ 0 < Num.fv .f32 1077936128 := by
    refine ⟨?_, ?_⟩
    · show (1077936128 : Nat) % FloatKind.f32.format.signWeight < FloatKind.f32.format.infRung
      decide +kernel
    · unfold Num.fv val rv p2
      decide +kernel
  have key : ∀ x, Fl .f32 x → 0 < Num.fv .f32 x → ∀ y v r, qwide x = some y → Circ.logP y = some v → qnarrow v = some r → Fl .f32 r → 69 / 100 ≤ Num.fv .f32 r → Num.fv .f32 r ≤ 11 / 10 → ∃ r, (∀ w : World, Calls Try.prog 48 #[.float .f32 x] w fun e w' => e = .returned (.float .f32 r) ∧ w' = w) ∧ Fl .f32 r ∧ 69 / 100 ≤ Num.fv .f32 r ∧ Num.fv .f32 r ≤ 11 / 10 :=
    fun x h1 h2 y v r a b c d e f => ⟨r, fun w => LogNumber_of h1 h2 a b c w, d, e, f⟩
  rcases hx with rfl | rfl
  · refine key _ c2.1 c2.2 4611686018427387904 ((Circ.logP 4611686018427387904).getD 0) ((qnarrow ((Circ.logP 4611686018427387904).getD 0)).getD 0) (by decide +kernel) (by decide +kernel) (by decide +kernel) ?_ ?_ ?_
    · show _ % FloatKind.f32.format.signWeight < FloatKind.f32.format.infRung
      decide +kernel
    · unfold Num.fv val rv p2
      decide +kernel
    · unfold Num.fv val rv p2
      decide +kernel
  · refine key _ c3.1 c3.2 4613937818241073152 ((Circ.logP 4613937818241073152).getD 0) ((qnarrow ((Circ.logP 4613937818241073152).getD 0)).getD 0) (by decide +kernel) (by decide +kernel) (by decide +kernel) ?_ ?_ ?_
    · show _ % FloatKind.f32.format.signWeight < FloatKind.f32.format.infRung
      decide +kernel
    · unfold Num.fv val rv p2
      decide +kernel
    · unfold Num.fv val rv p2
      decide +kernel
end Go.Proofs.Ytjmidicidgaapaa
