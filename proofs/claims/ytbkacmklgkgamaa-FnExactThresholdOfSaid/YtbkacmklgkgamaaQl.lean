/- Words for the walk (no program): a drawn region that begins with a call; the rest of it only reads. Conditions: only that call can come up first. -/
import Derived.Test.YtbkacmklgkgamaaRows
import Derived.WalkKit
import Derived.Deep.Quiet
import Derived.Deep.QuietTactic
import Derived.BigQuiet
import Derived.Lib.Hide
namespace Go.Proofs.Ytbkacmklgkgamaa
open Go.RowKit

section
variable {P : Program}
theorem wp_region_call {id : Nat} {Q : Exit → Act → World → Prop} {a : Act} {w : World} {o : Oper} {rest : List Oper} (hm : P.follows .mixedOrders = true) (hg : o.guard = none) (hs : Region.noSelect (o :: rest).toArray = true)
    (hr : Region.ready .any (o :: rest).toArray (Array.replicate (rest.length + 1) false) = [0])
    (hl : Region.lexFrom .any (o :: rest).toArray rest.length 1 ((Array.replicate (rest.length + 1) false).setIfInBounds 0 true) = true)
    (f : FuncId) (args : Array Value) (he : (execOp a.eval o).run P w.drew = .ok (.enter f args) w.drew) (R : Ending → World → Prop) (hc : Calls P f args w.drew R)
    (h : ∀ e w', R e w' → ∃ v, e = .returned v ∧ wpQuiet P (o :: rest).toArray (fun x => ∃ n, x = w'.drewN n) (fun a'' => ∀ w'', (∃ n, w'' = w'.drewN n) → Q .normal a'' w'') rest (a.put o.dst v)) :
    (Code.region id (o :: rest).toArray true).wp P Q a w := by
  refine wp_region_any hm ?_
  have e1 : (o :: rest).toArray.size = rest.length + 1 := by simp
  rw [e1]
  refine wpAny_all hr (by simp) (fun i hi => ?_)
  obtain rfl : i = 0 := by simpa using hi
  unfold wpOp
  have e2 : (o :: rest).toArray[0]? = some o := by simp
  rw [e2]
  have hw : Region.wanted o (yielded (o :: rest).toArray a.tmps) = true := by simp [Region.wanted, hg]
  simp only [hw, if_true]
  left
  unfold Oper.wp
  have he' : (execOp a.eval o).run P { w with drawn := w.drawn + 1 } = .ok (.enter f args) { w with drawn := w.drawn + 1 } := he
  rw [he']
  refine Calls.mono (show Calls P f args { w with drawn := w.drawn + 1 } R from hc) fun e w' hr' => ?_
  obtain ⟨v, rfl, hk⟩ := h e w' hr'
  show wpAny P .any (o :: rest).toArray Q rest.length _ (a.put o.dst v) w'
  have hq := wpAnyQ_lex (P := P) (ops := (o :: rest).toArray) (C := fun x => ∃ n, x = w'.drewN n) (md := .any) (Q := fun a'' => ∀ w'', (∃ n, w'' = w'.drewN n) → Q .normal a'' w'') hs rest 1 ((Array.replicate (rest.length + 1) false).setIfInBounds 0 true) (a.put o.dst v)
    (fun j => by simp [Nat.add_comm 1 j]) hl hk
  exact wpAny_of_quiet (Q := fun a'' => ∀ w'', (∃ n, w'' = w'.drewN n) → Q .normal a'' w'') (fun _ w'' hw'' h' => h' w'' hw'') _ _ _ _ ⟨0, rfl⟩ hq
end
end Go.Proofs.Ytbkacmklgkgamaa
