/- Walk: the reference's burning of a field, a queue. Conditions: the field is valid. -/
import Derived.Test.YtknonmfffcjonaaVd
import Derived.Test.YtknonmfffcjonaaPb
namespace Go.Proofs.Ytknonmfffcjonaa
open Go.RowKit

def burnsAt (cs : List Bool) (W i : Nat) : Bool := decide (i < W) && cs.getD i false
def ts0 (cs : List Bool) (W k : Nat) : List Int := (List.range k).map fun i => if burnsAt cs W i then 0 else -1
def l0 (cs : List Bool) (W k : Nat) : List Nat := (List.range k).filter (burnsAt cs W)
theorem ts0_succ_yes {cs : List Bool} {W k : Nat} (h : burnsAt cs W k = true) : (ts0 cs W (k + 1)).map iv = (ts0 cs W k).map iv ++ [.int .i64 0] ∧ (l0 cs W (k + 1)).map nv = (l0 cs W k).map nv ++ [.int .i64 (k : Int)] := by
  unfold ts0 l0
  rw [List.range_succ, List.map_append, List.map_append, List.filter_append, List.map_append]
  simp [h, iv, nv]
theorem ts0_succ_no {cs : List Bool} {W k : Nat} (h : burnsAt cs W k = false) : (ts0 cs W (k + 1)).map iv = (ts0 cs W k).map iv ++ [.int .i64 (-1)] ∧ (l0 cs W (k + 1)).map nv = (l0 cs W k).map nv := by
  unfold ts0 l0
  rw [List.range_succ, List.map_append, List.map_append, List.filter_append, List.map_append]
  simp [h, iv]
theorem l0_le (cs : List Bool) (W k : Nat) : (l0 cs W k).length ≤ k := by
  have := List.length_filter_le (burnsAt cs W) (List.range k)
  simpa [l0] using this
theorem l0_succ_yes {cs : List Bool} {W k : Nat} (h : burnsAt cs W k = true) : (l0 cs W (k + 1)).length = (l0 cs W k).length + 1 := by
  unfold l0; rw [List.range_succ, List.filter_append]; simp [h]
theorem l0_succ_no {cs : List Bool} {W k : Nat} (h : burnsAt cs W k = false) : (l0 cs W (k + 1)).length = (l0 cs W k).length := by
  unfold l0; rw [List.range_succ, List.filter_append]; simp [h]

theorem ts0_get (cs : List Bool) (W N i : Nat) : (ts0 cs W N).getD i 0 = if i < N then (if burnsAt cs W i then 0 else -1) else 0 := by
  unfold ts0
  rw [List.getD_eq_getElem?_getD, List.getElem?_map]
  by_cases h : i < N
  · rw [List.getElem?_range h, if_pos h]; rfl
  · rw [List.getElem?_eq_none (by simpa using h), if_neg h]; rfl
theorem burnt0 {cs : List Bool} {W N : Nat} : burnt (ts0 cs W N) = (l0 cs W N).length := by
  unfold burnt ts0 l0
  rw [List.countP_map, ← List.countP_eq_length_filter]
  congr 1
  funext i
  simp only [Function.comp]
  split <;> simp_all
theorem binv0 {cs : List Bool} {W N : Nat} (h : cs.length = N) : BInv N (ts0 cs W N) (l0 cs W N) := by
  refine ⟨by simp [ts0], fun x hx => ?_, fun i => ?_, fun i => ?_⟩
  · simp [l0] at hx
    exact hx.1
  · rw [ts0_get]; repeat' split
    all_goals omega
  · rw [ts0_get]; repeat' split
    all_goals omega

end Go.Proofs.Ytknonmfffcjonaa
