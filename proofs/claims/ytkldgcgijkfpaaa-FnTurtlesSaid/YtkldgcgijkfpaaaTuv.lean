/-
  What is proved: the law FnTurtles: for every two rows of bytes, in whatever memory, it returns true and leaves all that was there as it was. Conditions: none.
-/
import Derived.Test.YtkldgcgijkfpaaaTus
import Derived.Test.YtkldgcgijkfpaaaOb
namespace Go.Proofs.Ytkldgcgijkfpaaa
open Go.ChangeShapes Go.WideShapes Go.ChangeAt Go.RowKit

set_option maxRecDepth 100000 in
theorem tu_lifted (os : Os) (started : os.Started) (H : Type) (enc : TypeId × Value → H) :
    ReturnsInHanded {} Try.checked os 3 .any (Rows.fnTurtlesSpec.pre6 enc Try.prog Try.f3 Rows.fnTurtlesRow.domain false) (Rows.fnTurtlesSpec.post enc Try.prog Try.f3 false true false false) := by
  refine returnsInHanded_of_change (C := Try.checked) own started (by kernel_rfl) Try.func3
    (ChangeSpec.witness6 (enc := enc) (C := Try.checked) false ⟨#[], #[.slice none 0 0, .slice none 0 0], []⟩ 8 (by kernel_rfl) (by kernel_rfl) (by kernel_rfl) (by kernel_rfl)) ?_
  intro W base args ds gs before hval0 hW hcnd _
  have hval : ∀ (j : Nat) t v, Try.f3.params[j]? = some t → args[j]? = some v → Value.okWide Try.prog W .any base t v := hval0
  have hW' := hW
  obtain ⟨p, q, hA0, hV, rfl, hfz, hnd⟩ := hW
  have hA : DataW.TrodAll enc Try.prog W 0 (fun _ => true) true Try.f3.params.toList args.toList ds p := hA0
  rw [Try.params3] at hA hval
  obtain ⟨v0, v1, d0, d1, q0, q1, rfl, rfl, rfl, h0, h1⟩ := trodAll_two hA
  obtain ⟨rfl, rfl⟩ := trodVars_none hV
  obtain ⟨a1, l1, k1, rfl⟩ := okWide_slice Try.underlying22 (hval 0 _ _ rfl rfl)
  obtain ⟨a2, l2, k2, rfl⟩ := okWide_slice Try.underlying22 (hval 1 _ _ rfl rfl)
  obtain ⟨fu0, h0'⟩ := h0
  obtain ⟨fu1, h1'⟩ := h1
  obtain ⟨a1', l1', k1', bs, e1, hn1, hk1, hl1, hbs, hR1⟩ := open_bytes' h0'
  obtain ⟨a2', l2', k2', bs2, e2, hn2, hk2, hl2, hbs2, hR2⟩ := open_bytes' h1'
  cases e1
  cases e2
  have hcall : Calls Try.prog 3 #[.slice a1 l1 k1, .slice a2 l2 k2] W fun e w' => e = .returned (.bool true) ∧ Below W.heap.size W w' := by
    by_cases hb : l1 ≤ 48 ∧ l2 ≤ 48
    · exact lawTu_any a1 a2 l1 k1 l2 k2 bs bs2 W hb.1 hb.2 hk1 hk2 hbs hbs2 hR1 hR2
    · exact lawTu_long a1 a2 l1 k1 l2 k2 W hn1 hn2 hb
  refine hcall.mono fun e W' ⟨he, hg⟩ => ?_
  subst he
  exact ⟨_, rfl, law_post hW' rfl laidOut (by kernel_rfl) rfl Try.underlying4 rfl rfl rfl hg⟩

theorem tu_holds : Rows.FnTurtlesSaid :=
  OpenClaim.holds_of_wide 3 Try.f3 rfl rfl rfl rfl rfl rfl rfl ⟨rfl, rfl, rfl, rfl, rfl⟩ rfl rfl rfl rfl rfl (by kernel_rfl) Try.func3 (by kernel_rfl)
    (of_decide_eq_true (by kernel_rfl)) (by unfold Func.isWrapper; first | (rw [if_pos (by decide +kernel)]; kernel_rfl) | (rw [if_neg (by decide +kernel)]; exact ⟨rfl, rfl⟩))
    (fun os started H enc _ => tu_lifted os started H enc)
#print axioms tu_holds
end Go.Proofs.Ytkldgcgijkfpaaa
