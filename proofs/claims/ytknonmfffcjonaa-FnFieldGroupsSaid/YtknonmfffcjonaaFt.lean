/- Walks: FirstPath of the program and of the reference give the same. Condition: none but that the cells can be read. -/
import Derived.Test.YtknonmfffcjonaaFi
namespace Go.Proofs.Ytknonmfffcjonaa
open Go.RowKit

theorem ts0_nonpos (cs : List Bool) (W N j : Nat) : (ts0 cs W N).getD j (-1) ≤ 0 := by
  unfold ts0
  rw [List.getD_eq_getElem?_getD, List.getElem?_map]
  cases (List.range N)[j]? with
  | none => show (-1 : Int) ≤ 0; omega
  | some x =>
    simp only [Option.map_some, Option.getD_some]
    split <;> omega
theorem fpInts_len {T : List Int} {W H N : Nat} (hN : N ≤ 256) (hI : BInv N T []) : (fpInts T W H N).length ≤ 300 := by
  unfold fpInts fpList
  rw [List.length_map]
  split
  · simp
  · unfold pathOf
    rw [pathTo_len]
    have := (time_bd hI (bestTo T (N - W) W).toNat).2
    omega

end Go.Proofs.Ytknonmfffcjonaa
