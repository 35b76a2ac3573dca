/- Walk: how many bytes the shape has with which a text begins, by the reference. Condition: the text is shorter than 2^63. -/
import Derived.Test.YtbkacmklgkgamaaLd
namespace Go.Proofs.Ytbkacmklgkgamaa
open Go.RowKit

theorem getD_nums {s : ByteArray} {k : Nat} (h : k < s.size) : (nums s).getD k 0 = s[k].toNat := by
  rw [List.getD_eq_getElem?_getD, nums_get h]; rfl
end Go.Proofs.Ytbkacmklgkgamaa
