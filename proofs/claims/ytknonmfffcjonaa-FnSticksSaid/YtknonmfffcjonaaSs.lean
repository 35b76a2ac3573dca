/- Walk: the reference's groups that go from above to below. Conditions: the field is valid. -/
import Derived.Test.YtknonmfffcjonaaGs
namespace Go.Proofs.Ytknonmfffcjonaa
open Go.RowKit

/-- Whether group n is in the first row and in the last one. -/
def spanned (ts : List Int) (W n : Nat) : Bool := decide ((n : Int) ∈ ts.take W) && decide ((n : Int) ∈ ts.drop (ts.length - W))
def spansTo (ts : List Int) (W m : Nat) : List Int := ((List.range m).filter (spanned ts W)).map fun (n : Nat) => (n : Int)
theorem spansTo_zero (ts : List Int) (W : Nat) : spansTo ts W 0 = [] := rfl
theorem spansTo_yes {ts : List Int} {W m : Nat} (h : spanned ts W m = true) : spansTo ts W (m + 1) = spansTo ts W m ++ [(m : Int)] := by
  unfold spansTo; rw [List.range_succ, List.filter_append, List.map_append]; simp [h]
theorem spansTo_no {ts : List Int} {W m : Nat} (h : spanned ts W m = false) : spansTo ts W (m + 1) = spansTo ts W m := by
  unfold spansTo; rw [List.range_succ, List.filter_append, List.map_append]; simp [h]
theorem spansTo_le (ts : List Int) (W m : Nat) : (spansTo ts W m).length ≤ m := by
  unfold spansTo; rw [List.length_map]
  have := List.length_filter_le (spanned ts W) (List.range m)
  simpa using this
theorem decide_take_succ {l : List Int} {k : Nat} {n y : Int} (h : l[k]? = some y) (b : Bool) (hb : b = decide (n ∈ l.take k)) : (b || (y == n)) = decide (n ∈ l.take (k + 1)) := by
  subst hb
  rw [List.take_add_one, h]
  rw [Bool.eq_iff_iff]
  simp only [Bool.or_eq_true, decide_eq_true_eq, beq_iff_eq, List.mem_append, Option.toList_some, List.mem_singleton]
  exact or_congr Iff.rfl eq_comm

end Go.Proofs.Ytknonmfffcjonaa
