/- Walks: the laws' own functions on shapes: how large they are, their copies, whether two are the same. Conditions: as each says. -/
import Derived.Test.YtbkacmklgkgamaaLs
import Derived.WalkKit
namespace Go.Proofs.Ytbkacmklgkgamaa
open Go.RowKit

/-- How large: -1 if too large; else at most what was left, and Q holds. -/
def SzR (left : Int) (Q : Prop) (w : World) (e : Ending) (w' : World) : Prop := ∃ r : Int, e = .returned (.int .i64 r) ∧ -1 ≤ r ∧ r ≤ left ∧ (0 ≤ r → Q) ∧ Below w.heap.size w w'
def Shp.val (s : Shp) : Value := .agg #[.string s.nm, .int .i64 s.wd, .int .i64 s.hi, .slice s.A s.cs.length s.c]
/-- What a shape says. -/
def Shp.ct (s : Shp) : ByteArray × Int × Int × List Bool := (s.nm, s.wd, s.hi, s.cs)
def Same (l m : List Shp) : Prop := l.map Shp.ct = m.map Shp.ct
theorem Same.len {l m : List Shp} (h : Same l m) : l.length = m.length := by
  have := congrArg List.length h
  simpa using this
theorem catS_same {l m : List Shp} (h : Same l m) : catS l = catS m := by
  have e : ∀ l : List Shp, catS l = (l.map Shp.ct).flatMap fun x => wholeL x.1 x.2.1.toNat x.2.2.1.toNat x.2.2.2 := fun l => by
    rw [List.flatMap_map]; rfl
  rw [e l, e m, h]
theorem stOk_same {l m : List Shp} (h : Same l m) : stOk l = stOk m := by
  have e : ∀ l : List Shp, l.all Shp.ok = (l.map Shp.ct).all fun x => okSh x.1 x.2.1 x.2.2.1 x.2.2.2.length := fun l => by
    rw [List.all_map]; rfl
  unfold stOk
  rw [h.len, e l, e m, h]
theorem stT_same {l m : List Shp} (h : Same l m) : stT l = stT m := by
  unfold stT
  rw [stOk_same h, catS_same h]
theorem Same.get {l m : List Shp} (h : Same l m) {k : Nat} {s t : Shp} (hs : l[k]? = some s) (ht : m[k]? = some t) : s.ct = t.ct := by
  have h1 : (l.map Shp.ct)[k]? = some s.ct := by rw [List.getElem?_map, hs]; rfl
  have h2 : (m.map Shp.ct)[k]? = some t.ct := by rw [List.getElem?_map, ht]; rfl
  rw [h, h2] at h1
  exact (Option.some.inj h1).symm
theorem ShF.same {l m : List Shp} (h : Same l m) (hf : ShF l) : ShF m := fun t ht => by
  obtain ⟨k, hk⟩ := List.getElem?_of_mem ht
  have hkl : k < l.length := by rw [h.len]; exact (List.getElem?_eq_some_iff.1 hk).1
  have := h.get (List.getElem?_eq_getElem hkl) hk
  have h2 := hf _ (List.getElem_mem hkl)
  unfold Shp.ct at this
  injection this with a1 a2
  injection a2 with a2 a3
  injection a3 with a3 a4
  rw [a1, a4] at h2
  exact h2

end Go.Proofs.Ytbkacmklgkgamaa
