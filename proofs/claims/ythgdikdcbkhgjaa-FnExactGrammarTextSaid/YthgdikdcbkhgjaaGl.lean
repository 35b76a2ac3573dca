/-
  What is proved: the law FnExactGrammarText: for every grammar, in whatever memory, it returns true and leaves all that was there as it was. Conditions: none.
-/
import Derived.Test.YthgdikdcbkhgjaaGlu
import Derived.Test.YthgdikdcbkhgjaaGq
namespace Go.Proofs.Ythgdikdcbkhgjaa
open Go.ChangeShapes Go.WideShapes Go.ChangeAt Go.RowKit

set_option maxRecDepth 100000 in
theorem gt_lifted (os : Os) (started : os.Started) (H : Type) (enc : TypeId × Value → H) :
    ReturnsInHanded {} Try.checked os 4 .any (Rows.fnExactGrammarTextSpec.pre6 enc Try.prog Try.f4 Rows.fnExactGrammarTextRow.domain false) (Rows.fnExactGrammarTextSpec.post enc Try.prog Try.f4 false true false false) := by
  refine returnsInHanded_of_change (C := Try.checked) own started (by kernel_rfl) Try.func4
    (ChangeSpec.witness6 (enc := enc) (C := Try.checked) false ⟨#[], #[.agg #[.string ⟨#[]⟩, .slice none 0 0]], []⟩ 8 (by kernel_rfl) (by kernel_rfl) (by kernel_rfl) (by kernel_rfl)) ?_
  intro W base args ds gs before hval0 hW hcnd _
  have hval : ∀ (j : Nat) t v, Try.f4.params[j]? = some t → args[j]? = some v → Value.okWide Try.prog W .any base t v := hval0
  have hW' := hW
  obtain ⟨p, q, hA0, hV, rfl, hfz, hnd⟩ := hW
  have hA : DataW.TrodAll enc Try.prog W 0 (fun _ => true) true Try.f4.params.toList args.toList ds p := hA0
  rw [Try.params4] at hA hval
  obtain ⟨v0, d0, rfl, rfl, h0⟩ := trodAll_one hA
  obtain ⟨rfl, rfl⟩ := trodVars_none hV
  obtain ⟨s0, A, n, c, rs, rfl, hs, hn, hl, hf, hRd⟩ := open_grammar (hval 0 _ _ rfl rfl) h0
  have hcall : Calls Try.prog 4 #[.agg #[.string s0, .slice A n c]] W fun e w' => e = .returned (.bool true) ∧ Below W.heap.size W w' :=
    lawGt_any s0 rs A n c W hs hn hl hf hRd
  refine hcall.mono fun e W' ⟨he, hg⟩ => ?_
  subst he
  exact ⟨_, rfl, law_post hW' rfl laidOut (by kernel_rfl) rfl Try.underlying4 rfl rfl rfl hg⟩

theorem gt_holds : Rows.FnExactGrammarTextSaid :=
  OpenClaim.holds_of_wide 4 Try.f4 rfl rfl rfl rfl rfl rfl rfl ⟨rfl, rfl, rfl, rfl, rfl⟩ rfl rfl rfl rfl rfl (by kernel_rfl) Try.func4 (by kernel_rfl)
    (of_decide_eq_true (by kernel_rfl)) (by unfold Func.isWrapper; first | (rw [if_pos (by decide +kernel)]; kernel_rfl) | (rw [if_neg (by decide +kernel)]; exact ⟨rfl, rfl⟩))
    (fun os started H enc _ => gt_lifted os started H enc)
#print axioms gt_holds
end Go.Proofs.Ythgdikdcbkhgjaa
