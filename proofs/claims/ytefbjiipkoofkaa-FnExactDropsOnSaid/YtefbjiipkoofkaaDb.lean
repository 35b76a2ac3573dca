/-
  What is proved: the law FnExactDropsOn: for every sheet, in whatever memory, it returns true and leaves all that was there as it was. Conditions: none.
-/
import Derived.Test.YtefbjiipkoofkaaDbu
import Derived.Test.YtefbjiipkoofkaaHe
import Derived.Carry
namespace Go.Proofs.Ytefbjiipkoofkaa
open Go.ChangeShapes Go.WideShapes Go.ChangeAt Go.RowKit

set_option maxRecDepth 100000 in
theorem db_lifted (os : Os) (started : os.Started) (H : Type) (enc : TypeId × Value → H) :
    ReturnsInHanded {} Try.checked os 4 .any (Rows.fnExactDropsOnSpec.pre6 enc Try.prog Try.f4 Rows.fnExactDropsOnRow.domain false) (Rows.fnExactDropsOnSpec.post enc Try.prog Try.f4 false true false false) := by
  refine returnsInHanded_of_change (C := Try.checked) own started (by kernel_rfl) Try.func4
    (ChangeSpec.witness6 (enc := enc) (C := Try.checked) false ⟨#[], #[.agg #[.int .i64 0, .int .i64 0, .slice none 0 0], .int .i64 0, .int .i64 0, .float .f32 0, .float .f32 0, .int .i64 0], []⟩ 8 (by kernel_rfl) (by kernel_rfl) (by kernel_rfl) (by kernel_rfl)) ?_
  intro W base args ds gs before hval0 hW hcnd _
  have hval : ∀ (j : Nat) t v, Try.f4.params[j]? = some t → args[j]? = some v → Value.okWide Try.prog W .any base t v := hval0
  have hW' := hW
  obtain ⟨p, q, hA0, hV, rfl, hfz, hnd⟩ := hW
  have hA : DataW.TrodAll enc Try.prog W 0 (fun _ => true) true Try.f4.params.toList args.toList ds p := hA0
  rw [Try.params4] at hA hval
  obtain ⟨v0, v1, v2, v3, v4, v5, d0, d1, d2, d3, d4, d5, q0, q1, q2, q3, q4, q5, rfl, rfl, rfl, h0, h1, h2, h3, h4, h5⟩ := trodAll_six hA
  obtain ⟨rfl, rfl⟩ := trodVars_none hV
  obtain ⟨wd, hi, A, n, c, cs, rfl, hn, hl, hRd⟩ := open_sheet (hval 0 _ _ rfl rfl) h0
  obtain ⟨p0, rfl, rfl, rfl, _⟩ := open_int Try.underlying2 (hval 1 _ _ rfl rfl) h1
  obtain ⟨p1, rfl, rfl, rfl, _⟩ := open_int Try.underlying2 (hval 2 _ _ rfl rfl) h2
  obtain ⟨p2, rfl, rfl, rfl, _⟩ := open_float Try.underlying25 (hval 3 _ _ rfl rfl) h3
  obtain ⟨p3, rfl, rfl, rfl, _⟩ := open_float Try.underlying25 (hval 4 _ _ rfl rfl) h4
  obtain ⟨p4, rfl, rfl, rfl, _⟩ := open_int Try.underlying2 (hval 5 _ _ rfl rfl) h5
  have hcall : Calls Try.prog 4 #[.agg #[.int .i64 wd, .int .i64 hi, .slice A n c], .int .i64 p0, .int .i64 p1, .float .f32 p2, .float .f32 p3, .int .i64 p4] W fun e w' => e = .returned (.bool true) ∧ Below W.heap.size W w' := by
    by_cases hb : 1048576 < n
    · exact lawDropsOn_long wd hi p0 p1 p2 p3 p4 A n c W hn hb
    · exact lawDropsOn_any wd hi p0 p1 p2 p3 p4 A n c cs W (by omega) hl hRd
  refine hcall.mono fun e W' ⟨he, hg⟩ => ?_
  subst he
  exact ⟨_, rfl, law_post hW' rfl laidOut (by kernel_rfl) rfl Try.underlying4 rfl rfl rfl hg⟩

theorem db_holds : Rows.FnExactDropsOnSaid :=
  OpenClaim.holds_of_wide 4 Try.f4 rfl rfl rfl rfl rfl rfl rfl ⟨rfl, rfl, rfl, rfl, rfl⟩ rfl rfl rfl rfl rfl (by kernel_rfl) Try.func4 (by kernel_rfl)
    (of_decide_eq_true (by kernel_rfl)) (by unfold Func.isWrapper; first | (rw [if_pos (by decide +kernel)]; kernel_rfl) | (rw [if_neg (by decide +kernel)]; exact ⟨rfl, rfl⟩))
    (fun os started H enc _ => db_lifted os started H enc)
#print axioms db_holds
end Go.Proofs.Ytefbjiipkoofkaa
