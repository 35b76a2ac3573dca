/- Walk: the reference's path. Conditions: the field is valid. -/
import Derived.Test.YtknonmfffcjonaaBt
import Derived.Test.YtknonmfffcjonaaPp
import Derived.Test.YtknonmfffcjonaaSym
namespace Go.Proofs.Ytknonmfffcjonaa
open Go.RowKit

/-- What FirstPath gives: a list, and whether there is a path. -/
def FpRes (T : List Int) (ok : Bool) (w : World) (e : Ending) (w' : World) : Prop :=
  ∃ A' c', e = .returned (.tuple #[.slice A' T.length c', .bool ok]) ∧ w'.ownsRow w.heap.size 2 1 (.slice A' T.length c') T.length (T.map iv) ∧ Below w.heap.size w w'
theorem fpRes_nil {w w' : World} (hb : Below w.heap.size w w') : FpRes [] false w (.returned (.tuple #[.slice none 0 0, .bool false])) w' :=
  ⟨none, 0, rfl, World.ownsRow_nil _ _ _ _, hb⟩
/-- The list as integers. -/
def fpInts (T : List Int) (W H N : Nat) : List Int := (fpList T W H N).map fun (n : Nat) => (n : Int)
def fpOk (T : List Int) (W N : Nat) : Bool := decide (0 ≤ bestTo T (N - W) W)
theorem own_cellD {w : World} {base g n c : Nat} {e : TypeId} {T : List Int} (h : w.ownsRow base e 1 (.slice (some ⟨g, 0, none⟩) n c) n (T.map iv)) {i : Nat} (hi : i < n) : w.cell? ⟨g, i, none⟩ = some (.int .i64 (T.getD i (-1))) := by
  have hl : T.length = n := by have := h.1; simpa using this
  rw [h.cellAt _ (by omega), List.getElem?_map, time_at (by omega)]; rfl


end Go.Proofs.Ytknonmfffcjonaa
