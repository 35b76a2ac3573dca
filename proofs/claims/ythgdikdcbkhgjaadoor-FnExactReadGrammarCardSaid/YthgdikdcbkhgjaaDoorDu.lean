/- Plain law (no program): the parts of a text between marks. Conditions: none. -/
import Derived.Test.YthgdikdcbkhgjaaDoorMem
import Derived.Lib.SplitLaws
import Derived.Lib.IndexBytes
import Derived.Lib.IndexLaws
namespace Go.Proofs.YthgdikdcbkhgjaaDoor
open Go.RowKit

def sepC (c : UInt8) : ByteArray := ⟨#[c]⟩
/-- The parts of a text between marks. -/
def partsC (c : UInt8) (s : ByteArray) : List ByteArray := Lib.splitB (sepC c) 0 (Lib.countB s (sepC c)) s
theorem idc_none {c : UInt8} {l : List UInt8} (h : ∀ j, j < l.length → l[j]? ≠ some c) : Lib.index l [c] = -1 := by
  rw [Lib.index_one]
  have := Lib.indexByte_ge l c
  by_cases e : Lib.indexByte l c = -1
  · exact e
  · obtain ⟨o, ho⟩ : ∃ o : Nat, Lib.indexByte l c = o := ⟨(Lib.indexByte l c).toNat, by omega⟩
    obtain ⟨h1, _⟩ := Lib.indexByte_some ho
    exact absurd h1 (h o (List.getElem?_eq_some_iff.1 h1).1)
theorem idc_some {c : UInt8} {l : List UInt8} {i : Nat} (hi : l[i]? = some c) (h : ∀ j, j < i → l[j]? ≠ some c) : Lib.index l [c] = i := by
  rw [Lib.index_one]
  have := Lib.indexByte_ge l c
  by_cases e : Lib.indexByte l c = -1
  · exact absurd hi (Lib.indexByte_none e i)
  · obtain ⟨o, ho⟩ : ∃ o : Nat, Lib.indexByte l c = o := ⟨(Lib.indexByte l c).toNat, by omega⟩
    obtain ⟨h1, h2⟩ := Lib.indexByte_some ho
    rw [ho]
    have : ¬ o < i := fun hlt => h o hlt h1
    have : ¬ i < o := fun hlt => h2 i hlt hi
    congr 1
    omega
theorem exc_data (s : ByteArray) (a b : Nat) : (s.extract a b).data.toList = (s.data.toList.drop a).take (b - a) := by
  simp [ByteArray.data_extract, List.extract_eq_take_drop]
theorem exc_get (s : ByteArray) (a b j : Nat) (h : j < b - a) : (s.extract a b).data.toList[j]? = s.data.toList[a + j]? := by
  rw [exc_data, List.getElem?_take_of_lt h, List.getElem?_drop]
theorem exc_ext (s : ByteArray) (a b c d : Nat) (h : a + d ≤ b) : (s.extract a b).extract c d = s.extract (a + c) (a + d) := by
  apply ByteArray.ext
  apply Array.ext'
  rw [exc_data, exc_data, exc_data, List.drop_take, List.drop_drop, List.take_take]
  congr 1
  omega
theorem pc_end {c : UInt8} {s : ByteArray} {f : Nat} (h : ∀ j, f ≤ j → j < s.size → s.data.toList[j]? ≠ some c) : partsC c (s.extract f s.size) = [s.extract f s.size] := by
  refine Lib.splitB_miss _ _ _ _ (idc_none (l := (s.extract f s.size).data.toList) fun j hj => ?_)
  have hl : (s.extract f s.size).data.toList.length = s.size - f := by
    rw [exc_data, List.length_take, List.length_drop, Array.length_toList]
    show min (s.size - f) (s.size - f) = _
    omega
  rw [hl] at hj
  rw [exc_get _ _ _ _ hj]
  exact h _ (by omega) (by omega)
theorem pc_hit {c : UInt8} {s : ByteArray} {f i : Nat} (hf : f ≤ i) (hi : i < s.size) (hc : s.data.toList[i]? = some c) (h : ∀ j, f ≤ j → j < i → s.data.toList[j]? ≠ some c) :
    partsC c (s.extract f s.size) = s.extract f i :: partsC c (s.extract (i + 1) s.size) := by
  have hx : Lib.indexB (s.extract f s.size) (sepC c) = ((i - f : Nat) : Int) := idc_some (l := (s.extract f s.size).data.toList) (by rw [exc_get _ _ _ _ (by omega), show f + (i - f) = i from by omega]; exact hc)
    (fun j hj => by rw [exc_get _ _ _ _ (by omega)]; exact h _ (by omega) (by omega))
  have hcnt : Lib.countB (s.extract f s.size) (sepC c) = Lib.countB (s.extract (i + 1) s.size) (sepC c) + 1 := by
    show Lib.count (s.extract f s.size).data.toList [c] = Lib.count (s.extract (i + 1) s.size).data.toList [c] + 1
    rw [Lib.count_one, Lib.count_one]
    have e1 : (s.extract f s.size).data.toList = (s.extract f i).data.toList ++ c :: (s.extract (i + 1) s.size).data.toList := by
      have hl : s.data.toList.length = s.size := Array.length_toList
      have e2 : ∀ k, (s.extract k s.size).data.toList = s.data.toList.drop k := fun k => by
        rw [exc_data, List.take_of_length_le]
        rw [List.length_drop, hl]
        exact Nat.le_refl _
      rw [e2, e2, exc_data]
      have e3 : s.data.toList.drop i = c :: s.data.toList.drop (i + 1) := by
        have := List.getElem?_eq_some_iff.1 hc
        rw [List.drop_eq_getElem_cons this.1, this.2]
      rw [← e3]
      conv => lhs; rw [← List.take_append_drop (i - f) (s.data.toList.drop f), List.drop_drop, show f + (i - f) = i from by omega]
    rw [e1, List.count_append, List.count_cons_self]
    have : ((s.extract f i).data.toList).count c = 0 := by
      rw [List.count_eq_zero]
      intro hm
      obtain ⟨j, hj⟩ := List.getElem?_of_mem hm
      have hl := (List.getElem?_eq_some_iff.1 hj).1
      rw [exc_data, List.length_take] at hl
      rw [exc_get _ _ _ _ (by omega)] at hj
      exact h _ (by omega) (by omega) hj
    omega
  have hsz : (s.extract f s.size).size = s.size - f := by simp
  unfold partsC
  rw [hcnt, Lib.splitB_hit _ _ _ _ _ hx, hsz, exc_ext _ _ _ _ _ (by omega), exc_ext _ _ _ _ _ (by omega)]
  have e1 : (sepC c).size = 1 := rfl
  rw [e1, show f + 0 = f from rfl, show f + (i - f + 0) = i from by omega, show f + (i - f + 1) = i + 1 from by omega, show f + (s.size - f) = s.size from by omega]
theorem pc_all (c : UInt8) (s : ByteArray) : partsC c (s.extract 0 s.size) = partsC c s := by
  congr 1
  apply ByteArray.ext
  apply Array.ext'
  rw [exc_data, List.drop_zero, List.take_of_length_le]
  show s.data.toList.length ≤ s.size
  rw [Array.length_toList]
  exact Nat.le_refl _
theorem pc_len (c : UInt8) (s : ByteArray) : (partsC c s).length = Lib.countB s (sepC c) + 1 := Lib.splitB_all (sepC c) (Nat.le_refl _) 0 _ s rfl
end Go.Proofs.YthgdikdcbkhgjaaDoor
