/- Walks: the laws' own functions on grammars: how large they are, their copies, whether two are the same. Conditions: as each says. -/
import Derived.Test.YthgdikdcbkhgjaaDoorGv
import Derived.Test.YthgdikdcbkhgjaaDoorEq
import Derived.WalkKit
namespace Go.Proofs.YthgdikdcbkhgjaaDoor
open Go.RowKit

/-- How large: -1 if too large; else at most what was left, less n. -/
def SzRes (left : Int) (n : Nat) (w : World) (e : Ending) (w' : World) : Prop := ∃ r : Int, e = .returned (.int .i64 r) ∧ -1 ≤ r ∧ r ≤ left ∧ (0 ≤ r → (n : Int) ≤ left) ∧ Below w.heap.size w w'

theorem ruleInfo : (Tryd.prog.info? 45).map (fun i => (i.zero, i.size, i.bytes)) = some (some (.agg #[.string ⟨#[]⟩, .string ⟨#[]⟩]), 2, 32) := by kernel_rfl
def rcellAt (rs : List (ByteArray × ByteArray)) (j : Nat) : Value := (rcells rs).getD j (.string ⟨#[]⟩)
theorem rcellAt_of {rs : List (ByteArray × ByteArray)} {j : Nat} {v : Value} (h : (rcells rs)[j]? = some v) : rcellAt rs j = v := getD_of h
theorem filled_rcells (rs : List (ByteArray × ByteArray)) {zs : List Value} (h : zs.length = (rcells rs).length) : filled (rcellAt rs) zs.length zs = rcells rs := by
  rw [filled_all, h]
  refine List.ext_getElem (by simp) (fun i h1 h2 => ?_)
  simp only [List.getElem_map, List.getElem_range]
  exact rcellAt_of (List.getElem?_eq_getElem h2)

set_option maxRecDepth 100000 in
set_option maxHeartbeats 400000 in
theorem eqGrammar_same (s0 : ByteArray) (rs : List (ByteArray × ByteArray)) (A A' : Option Addr) (n c c' : Nat) (w : World) (hn : n ≤ maxLen)
    (hA : Rd w w.heap.size 2 A n (rcells rs)) (hA' : Rd w w.heap.size 2 A' n (rcells rs)) :
    Calls Tryd.prog 9 #[.agg #[.string s0, .slice A n c], .agg #[.string s0, .slice A' n c']] w fun e w' => e = .returned (.bool true) ∧ Below w.heap.size w w' := by
  have hb0 : ∀ o o', Below w.heap.size w ((w.alloc o).alloc o') := fun o o' => ((Below.refl _ _).alloc (Nat.le_refl _) _).alloc (by simp) _
  have H0 := Lib.hid hb0
  clear hb0
  have h1 : (!s0.toList == s0.toList) = false := by simp
  go_enter Tryd.func9, Tryd.ntmps9
  go_wp2_with fail
  refine (eqRuleS_same A A' n c c' (rcells rs) _ hn (rcells_all rs) ((hA.below (H0.out _ _)).more (by simp; omega)) ((hA'.below (H0.out _ _)).more (by simp; omega))).mono ?_
  rintro e w1 ⟨rfl, hb1⟩
  go_wp2
  go_ret
  exact ⟨rfl, (H0.out _ _).trans (hb1.mono (by simp; omega))⟩
end Go.Proofs.YthgdikdcbkhgjaaDoor
