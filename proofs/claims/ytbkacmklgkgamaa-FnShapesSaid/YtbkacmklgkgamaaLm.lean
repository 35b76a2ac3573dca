/- Walk: loading a shape, by the reference. Condition: the text is shorter than 2^63. -/
import Derived.Test.YtbkacmklgkgamaaLl
import Derived.Test.YtbkacmklgkgamaaCp
namespace Go.Proofs.Ytbkacmklgkgamaa
open Go.RowKit

theorem getD_of_some {s : List Nat} {k v : Nat} (h : s[k]? = some v) : s.getD k 0 = v := by
  rw [List.getD_eq_getElem?_getD, h]; rfl
/-- Each shape whose bytes s begins with has these parts. -/
theorem load_match {s : ByteArray} {x : Rdd} {r : List Nat} (he : x.whole ++ r = nums s) {a : Nat} (ha : (nums s).getD 4 0 = a) :
    x.nm.size = a ∧ s.extract 5 (5 + a) = x.nm ∧ (nums s).getD (5 + a) 0 = x.W ∧ (nums s).getD (5 + a + 1) 0 = x.H ∧ (nums s).getD (5 + a + 2) 0 = (pack x.cs).length % 256 ∧ (nums s).getD (5 + a + 3) 0 = (pack x.cs).length / 256 ∧
      nums (s.extract (9 + a) (9 + a + (pack x.cs).length)) = pack x.cs ∧ 11 + a + (pack x.cs).length ≤ s.size := by
  have p := parsed (nm := x.nm) (W := x.W) (H := x.H) (cs := x.cs) (r := r) he.symm
  have e0 : x.nm.size = a := by rw [← ha]; exact (getD_of_some p.name).symm
  subst e0
  refine ⟨rfl, ?_, getD_of_some p.wide, getD_of_some p.high, getD_of_some p.lo, getD_of_some p.hi, ?_, by have := p.len; rw [nums_len] at this; exact this⟩
  · rw [← txt_nums (s.extract 5 (5 + x.nm.size)), nums_extract, show 5 + x.nm.size - 5 = x.nm.size from by omega, p.nums, txt_nums]
  · rw [nums_extract, show 9 + x.nm.size + (pack x.cs).length - (9 + x.nm.size) = (pack x.cs).length from by omega]
    exact p.cells
theorem longL_ge {s : List Nat} (h : longL s ≠ 0) : 5 ≤ s.length ∧ longL s = 5 + s.getD 4 0 + 6 + s.getD (5 + s.getD 4 0 + 2) 0 + 256 * s.getD (5 + s.getD 4 0 + 3) 0 ∧ longL s ≤ s.length := by
  unfold longL at h ⊢
  split
  · rename_i q; rw [if_pos q] at h; exact absurd rfl h
  · split
    · rename_i q1 q; rw [if_neg q1, if_pos q] at h; exact absurd rfl h
    · split
      · rename_i q1 q2 q; rw [if_neg q1, if_neg q2, if_pos q] at h; exact absurd rfl h
      · exact ⟨by omega, rfl, by omega⟩
def shV (nm : ByteArray) (W H : Nat) (A : Option Addr) (n c : Nat) : Value := .agg #[.string nm, .int .i64 (W : Int), .int .i64 (H : Int), .slice A n c]
def zeroSh : Value := .agg #[.string ⟨#[]⟩, .int .i64 0, .int .i64 0, .slice none 0 0]
/-- What both loadings give. -/
def LoadOut (s : ByteArray) (w : World) (e : Ending) (w' : World) : Prop := ∃ r : Option Rdd, Lod (nums s) r ∧ Below w.heap.size w w' ∧
  ((r = none ∧ e = .returned (.tuple #[zeroSh, .bool false])) ∨ ∃ (x : Rdd) (A : Option Addr) (c : Nat), r = some x ∧ e = .returned (.tuple #[shV x.nm x.W x.H A x.cs.length c, .bool true]) ∧ w'.ownsRow w.heap.size 4 1 (.slice A x.cs.length c) x.cs.length (x.cs.map bv))
end Go.Proofs.Ytbkacmklgkgamaa
