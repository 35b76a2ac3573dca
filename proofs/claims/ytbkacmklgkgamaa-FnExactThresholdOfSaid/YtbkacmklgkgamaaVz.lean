/-
  What is proved: the law FnExactThresholdOf: for all weights, in whatever memory, it returns true and leaves all that was there as it was. Conditions: none.
-/
import Derived.Test.YtbkacmklgkgamaaVx
import Derived.Test.YtbkacmklgkgamaaHe
import Derived.Carry
namespace Go.Proofs.Ytbkacmklgkgamaa
open Go.ChangeShapes Go.WideShapes Go.ChangeAt Go.RowKit

set_option maxRecDepth 100000 in
theorem th_lifted (os : Os) (started : os.Started) (H : Type) (enc : TypeId × Value → H) :
    ReturnsInHanded {} Try.checked os 5 .any (Rows.fnExactThresholdOfSpec.pre6 enc Try.prog Try.f5 Rows.fnExactThresholdOfRow.domain false) (Rows.fnExactThresholdOfSpec.post enc Try.prog Try.f5 false true false false) := by
  refine returnsInHanded_of_change (C := Try.checked) own started (by kernel_rfl) Try.func5
    (ChangeSpec.witness6 (enc := enc) (C := Try.checked) false ⟨#[], #[.slice none 0 0, .int .i64 0, .int .i64 0], []⟩ 8 (by kernel_rfl) (by kernel_rfl) (by kernel_rfl) (by kernel_rfl)) ?_
  intro W base args ds gs before hval0 hW hcnd _
  have hval : ∀ (j : Nat) t v, Try.f5.params[j]? = some t → args[j]? = some v → Value.okWide Try.prog W .any base t v := hval0
  have hW' := hW
  obtain ⟨p, q, hA0, hV, rfl, hfz, hnd⟩ := hW
  have hA : DataW.TrodAll enc Try.prog W 0 (fun _ => true) true Try.f5.params.toList args.toList ds p := hA0
  rw [Try.params5] at hA hval
  obtain ⟨v0, v1, v2, d0, d1, d2, q0, q1, q2, rfl, rfl, rfl, h0, h1, h2⟩ := trodAll_three hA
  obtain ⟨rfl, rfl⟩ := trodVars_none hV
  obtain ⟨a1, l1, k1, rfl⟩ := okWide_slice Try.underlying45 (hval 0 _ _ rfl rfl)
  obtain ⟨fu0, h0'⟩ := h0
  obtain ⟨a1', l1', k1', xs, e1, hn1, hl1, hR1⟩ := open_floats' h0'
  cases e1
  obtain ⟨p0, rfl, rfl, rfl, _⟩ := open_int Try.underlying2 (hval 1 _ _ rfl rfl) h1
  obtain ⟨p1, rfl, rfl, rfl, _⟩ := open_int Try.underlying2 (hval 2 _ _ rfl rfl) h2
  have hcall : Calls Try.prog 5 #[.slice a1 l1 k1, .int .i64 p0, .int .i64 p1] W fun e w' => e = .returned (.bool true) ∧ Below W.heap.size W w' := by
    by_cases hb : 1048576 < l1
    · exact lawTh_long p0 p1 a1 l1 k1 W hn1 hb
    · exact lawTh_any p0 p1 a1 l1 k1 xs W (by omega) hl1 hR1
  refine hcall.mono fun e W' ⟨he, hg⟩ => ?_
  subst he
  exact ⟨_, rfl, law_post hW' rfl laidOut (by kernel_rfl) rfl Try.underlying4 rfl rfl rfl hg⟩

theorem th_holds : Rows.FnExactThresholdOfSaid :=
  OpenClaim.holds_of_wide 5 Try.f5 rfl rfl rfl rfl rfl rfl rfl ⟨rfl, rfl, rfl, rfl, rfl⟩ rfl rfl rfl rfl rfl (by kernel_rfl) Try.func5 (by kernel_rfl)
    (of_decide_eq_true (by kernel_rfl)) (by unfold Func.isWrapper; first | (rw [if_pos (by decide +kernel)]; kernel_rfl) | (rw [if_neg (by decide +kernel)]; exact ⟨rfl, rfl⟩))
    (fun os started H enc _ => th_lifted os started H enc)
#print axioms th_holds
end Go.Proofs.Ytbkacmklgkgamaa
