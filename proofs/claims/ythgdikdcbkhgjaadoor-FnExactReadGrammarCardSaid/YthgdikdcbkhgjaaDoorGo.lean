/- Walks: GrammarText of the program and of the reference give the same. Condition: texts are shorter than 2^63. -/
import Derived.Test.YthgdikdcbkhgjaaDoorGx
namespace Go.Proofs.YthgdikdcbkhgjaaDoor
open Go.RowKit

theorem short_of {s : ByteArray} {rs : List (ByteArray × ByteArray)} (h : validG s rs = true) : Short s rs := by
  unfold validG wordB at h
  simp only [Bool.and_eq_true, decide_eq_true_eq] at h
  refine ⟨h.1.1.1, h.1.2, fun k r hr => ?_⟩
  have hk := (List.getElem?_eq_some_iff.1 hr).1
  have h2 := h.2
  unfold okRules at h2
  have h3 := (List.all_eq_true.1 h2) k (by simpa using hk)
  unfold okRule at h3
  rw [getD_of hr] at h3
  simp only [Bool.and_eq_true] at h3
  have h4 := h3.1
  unfold ruleB wordB at h4
  simp only [Bool.and_eq_true, decide_eq_true_eq] at h4
  exact ⟨by omega, h4.2.1⟩
theorem below_drewN' {B : Nat} {a w : World} (h : Below B a w) (n : Nat) : Below B a (w.drewN n) := ⟨h.os, h.tape, h.output, h.size, h.block⟩
/-- What GrammarText gives. -/
def GtRes (x : ByteArray) (ok : Bool) (w : World) (e : Ending) (w' : World) : Prop := e = .returned (.tuple #[.string x, .bool ok]) ∧ Below w.heap.size w w'
def gtB (s : ByteArray) (rs : List (ByteArray × ByteArray)) : ByteArray := if validG s rs = true then ⟨(gtext s rs).toArray⟩ else ⟨#[]⟩
theorem gtB_eq {s x : ByteArray} {rs : List (ByteArray × ByteArray)} (h : validG s rs = true) (hx : x.data.toList = gtext s rs) : x = gtB s rs := by
  unfold gtB
  rw [if_pos h, ← hx]

end Go.Proofs.YthgdikdcbkhgjaaDoor
