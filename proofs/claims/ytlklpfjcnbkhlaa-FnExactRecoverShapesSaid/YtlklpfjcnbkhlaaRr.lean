/-
  What is proved: the law FnExactRecoverShapes: for every text, in whatever memory, it returns true and leaves all that was there as it was. Conditions: none.
-/
import Derived.Test.YtlklpfjcnbkhlaaRv
import Derived.Test.YtlklpfjcnbkhlaaOpen
namespace Go.Proofs.Ytlklpfjcnbkhlaa
open Go.ChangeShapes Go.WideShapes Go.ChangeAt Go.RowKit

set_option maxRecDepth 100000 in
theorem rs_lifted (os : Os) (started : os.Started) (H : Type) (enc : TypeId × Value → H) :
    ReturnsInHanded {} Try.checked os 5 .any (Rows.fnExactRecoverShapesSpec.pre6 enc Try.prog Try.f5 Rows.fnExactRecoverShapesRow.domain false) (Rows.fnExactRecoverShapesSpec.post enc Try.prog Try.f5 false true false false) := by
  refine returnsInHanded_of_change (C := Try.checked) own started (by kernel_rfl) Try.func5
    (ChangeSpec.witness6 (enc := enc) (C := Try.checked) false ⟨#[], #[.string ⟨#[]⟩], []⟩ 8 (by kernel_rfl) (by kernel_rfl) (by kernel_rfl) (by kernel_rfl)) ?_
  intro W base args ds gs before hval0 hW hcnd _
  have hval : ∀ (j : Nat) t v, Try.f5.params[j]? = some t → args[j]? = some v → Value.okWide Try.prog W .any base t v := hval0
  have hW' := hW
  obtain ⟨p, q, hA0, hV, rfl, hfz, hnd⟩ := hW
  have hA : DataW.TrodAll enc Try.prog W 0 (fun _ => true) true Try.f5.params.toList args.toList ds p := hA0
  rw [Try.params5] at hA hval
  obtain ⟨v0, d0, rfl, rfl, h0⟩ := trodAll_one hA
  obtain ⟨rfl, rfl⟩ := trodVars_none hV
  obtain ⟨s0, rfl⟩ := okWide_string Try.underlying9 (hval 0 _ _ rfl rfl)
  obtain ⟨fuel, h0'⟩ := h0
  obtain ⟨s1, e1, _, hs1⟩ := DataW.trod_string Try.underlying9 h0'
  obtain rfl : s0 = s1 := by
    have e2 : [Value.string s0] = [Value.string s1] := e1
    simpa using e2
  have hcall : Calls Try.prog 5 #[.string s0] W fun e w' => e = .returned (.bool true) ∧ Below W.heap.size W w' :=
    lawRs_any s0 W hs1
  refine hcall.mono fun e W' ⟨he, hg⟩ => ?_
  subst he
  exact ⟨_, rfl, law_post hW' rfl laidOut (by kernel_rfl) rfl Try.underlying4 rfl rfl rfl hg⟩

theorem rs_holds : Rows.FnExactRecoverShapesSaid :=
  OpenClaim.holds_of_wide 5 Try.f5 rfl rfl rfl rfl rfl rfl rfl ⟨rfl, rfl, rfl, rfl, rfl⟩ rfl rfl rfl rfl rfl (by kernel_rfl) Try.func5 (by kernel_rfl)
    (of_decide_eq_true (by kernel_rfl)) (by unfold Func.isWrapper; first | (rw [if_pos (by decide +kernel)]; kernel_rfl) | (rw [if_neg (by decide +kernel)]; exact ⟨rfl, rfl⟩))
    (fun os started H enc _ => rs_lifted os started H enc)
#print axioms rs_holds
end Go.Proofs.Ytlklpfjcnbkhlaa
