/- Walks: the source of drawn numbers is made; chances out of it. Conditions: at most 2^20 bytes. -/
import Derived.Test.YtkldgcgijkfpaaaIn
import Derived.Test.YtkldgcgijkfpaaaApp
import Derived.Deep.RegionLaw
import Derived.Deep.AppendLies
namespace Go.Proofs.Ytkldgcgijkfpaaa
open Go.RowKit

section
variable {P : Program}
/-- A call of a Go function, as one step of a region that draws. -/
theorem step_enter {ops : Array Oper} {o : Oper} {a : Act} {w : World} {K : Act → World → Prop} {Q : Exit → Act → World → Prop} {E : Prop} (hg : o.guard = none) (f : FuncId) (args : Array Value) (he : (execOp a.eval o).run P w = .ok (.enter f args) w)
    (R : Ending → World → Prop) (hc : Calls P f args w R) (h : ∀ e w', R e w' → ∃ v, e = .returned v ∧ K (a.put o.dst v) w') : if Region.wanted o (yielded ops a.tmps) = true then Oper.wp P o a w K Q else E := by
  have hw : Region.wanted o (yielded ops a.tmps) = true := by simp [Region.wanted, hg]
  rw [if_pos hw]
  unfold Oper.wp
  rw [he]
  refine hc.mono fun e w' hr => ?_
  obtain ⟨v, rfl, hk⟩ := h e w' hr
  exact hk
end
theorem grown_alloc' {a w : World} {r : Option Nat} (h : a.grownBy w r) (o : Obj) : a.grownBy (w.alloc o) r := grown_trans' h (World.grownBy_alloc w o r)
theorem grown_new {a w w' : World} {r : Option Nat} {k : Nat} (h : a.grownBy w r) (h' : w.grownBy w' (some k)) (hk : a.heap.size ≤ k) : a.grownBy w' r :=
  ⟨h'.os.trans h.os, h'.tape.trans h.tape, h'.output.trans h.output, Nat.le_trans h.size h'.size, fun i hi hr => (h'.block i (Nat.lt_of_lt_of_le hi h.size) (fun e => by injection e with e; omega)).trans (h.block i hi hr)⟩
theorem grown_new' {a w w' : World} {r r' : Option Nat} (h : a.grownBy w r) (h' : w.grownBy w' r') (hk : ∀ k, r' = some k → a.heap.size ≤ k) : a.grownBy w' r :=
  ⟨h'.os.trans h.os, h'.tape.trans h.tape, h'.output.trans h.output, Nat.le_trans h.size h'.size, fun i hi hr => (h'.block i (Nat.lt_of_lt_of_le hi h.size) (fun e => by have := hk _ e.symm; omega)).trans (h.block i hi hr)⟩
set_option maxHeartbeats 400000 in
theorem l00From_any (A : Option Addr) (n c : Nat) (v : World) : Calls Try.prog 28 #[.slice A n c] v fun e w' => e = .returned (.pointer (some ⟨v.heap.size, 0, none⟩)) ∧ w' = v.alloc (.cells #[.slice A n c, .int .i64 0, .int .u64 0] 86) := by
  go_enter Try.func28, Try.ntmps28
  go_wp2
  go_ret
  exact ⟨rfl, rfl⟩
end Go.Proofs.Ytkldgcgijkfpaaa
