/- Walks: FirstPath of the program and of the reference give the same. Condition: none but that the cells can be read. -/
import Derived.Test.YtoclpjhhjkcejaaFi
namespace Go.Proofs.Ytoclpjhhjkcejaa
open Go.RowKit

theorem ts0_nonpos (cs : List Bool) (W N j : Nat) : (ts0 cs W N).getD j (-1) ≤ 0 := by
  unfold ts0
  rw [List.getD_eq_getElem?_getD, List.getElem?_map]
  cases (List.range N)[j]? with
  | none => show (-1 : Int) ≤ 0; omega
  | some x =>
    simp only [Option.map_some, Option.getD_some]
    split <;> omega
theorem fpInts_len {T : List Int} {W H N : Nat} (hN : N ≤ 256) (hI : BInv N T []) : (fpInts T W H N).length ≤ 300 := by
  unfold fpInts fpList
  rw [List.length_map]
  split
  · simp
  · unfold pathOf
    rw [pathTo_len]
    have := (time_bd hI (bestTo T (N - W) W).toNat).2
    omega

theorem firstPath_pair (wd hi : Int) (cs : List Bool) : ∃ T ok, T.length ≤ 300 ∧
    (∀ A c w, Rd w w.heap.size 1 A cs.length (cs.map bv) → Calls Try.prog 20 #[fieldV wd hi A cs.length c] w (FpRes T ok w)) ∧
    (∀ A c w, Rd w w.heap.size 1 A cs.length (cs.map bv) → Calls Try.prog 21 #[fieldV wd hi A cs.length c] w (FpRes T ok w)) := by
  cases h : validB wd hi cs.length
  · exact ⟨[], false, by simp, fun A c w _ => specPath_no wd hi A _ c w h, fun A c w _ => implPath_no wd hi A _ c w h⟩
  · obtain ⟨W, H, rfl, rfl, h1, h2, h3, h4, h5⟩ := valid_nat h
    have h6 := Nat.mul_le_mul h2 h4
    have hnb : ∀ i < cs.length, ∀ b ∈ nbs W H i, b < cs.length := fun j hj b hb => by
      rw [← h5] at hj ⊢
      exact nbs_lt hj hb
    have hsym : ∀ i < cs.length, ∀ b ∈ nbs W H i, i ∈ nbs W H b := fun j hj b hb => by
      rw [← h5] at hj
      exact nbs_sym (by omega) hj hb
    have hlt : ∀ i ∈ l0 cs W cs.length, (ts0 cs W cs.length).getD i (-1) = -1 + 1 := fun i hi => by
      have hw : W ≤ cs.length := by rw [← h5]; exact Nat.le_mul_of_pos_right W h3
      rw [l0_cut hw] at hi
      exact l0_time hw i hi
    have hD0 : Down (nbs W H) (ts0 cs W cs.length) := fun j hj => by
      have := ts0_nonpos cs W cs.length j
      omega
    have hD := hD0.lrun (cs := cs) (F := cs.length + 1) hnb hsym (binv0 rfl) hlt (by omega)
    have hI := lrun_inv (cs := cs) (F := cs.length + 1) hnb (binv0 rfl) hlt (by omega)
    exact ⟨fpInts (lrun cs (nbs W H) (cs.length + 1) (ts0 cs W cs.length) (l0 cs W cs.length) (-1)).1 W H cs.length, fpOk (lrun cs (nbs W H) (cs.length + 1) (ts0 cs W cs.length) (l0 cs W cs.length) (-1)).1 W cs.length,
      fpInts_len (by omega) hI,
      fun A c w hA => specPath_ok W H cs.length A c cs w _ h1 h2 h3 h4 rfl h5 h (by rw [burn_same rfl h5]) hI hD hA,
      fun A c w hA => implPath_ok W H cs.length A c cs w _ h1 h2 h3 h4 rfl h5 h rfl hI hD hA⟩
end Go.Proofs.Ytoclpjhhjkcejaa
