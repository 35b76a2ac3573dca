/- Opening the laws' arguments: bytes; what a slice of bytes that came in reads as. -/
import Derived.Test.YtkldgcgijkfpaaaRows
import Derived.Test.YtkldgcgijkfpaaaMem
import Derived.Test.YtkldgcgijkfpaaaU8
import Derived.Carry
import Derived.Test.YtkldgcgijkfpaaaPost
import Derived.Deep.Grids
import Derived.Deep.MidRow
namespace Go.Proofs.Ytkldgcgijkfpaaa
open Go.RowKit Go.WideShapes Go.ChangeShapes Go.Deep

theorem own : ownKnob Try.prog.godebug = none := by kernel_rfl
theorem laidOut : laidOutB Try.prog = true := by kernel_rfl

theorem Rd.of_cells {W : World} {a : Addr} {len : Nat} {f : Nat → Value} (h : ∀ i, i < len → W.cell? (a.add i) = some (f i)) : Rd W W.heap.size 1 (some a) len ((List.range len).map f) := by
  refine ⟨by simp, fun hn => ?_⟩
  have h0 := h 0 hn
  have hb := World.block_lt_of_cell? W _ h0
  obtain ⟨b, off, sp⟩ := a
  have e0 : (⟨b, off, sp⟩ : Addr).add 0 = ⟨b, off, sp⟩ := rfl
  rw [e0] at h0 hb
  have hs : sp = none := by
    cases sp with
    | none => rfl
    | some x =>
      exfalso
      unfold World.cell? at h0
      split at h0
      · simp at h0
      · cases h0
  subst hs
  refine ⟨b, off, rfl, hb, fun j u hu => ?_⟩
  have hj : j < len := by
    have := (List.getElem?_eq_some_iff.1 hu).1
    simpa using this
  rw [List.getElem?_map, List.getElem?_range hj] at hu
  rw [← Addr.add_mid, h j hj]
  exact hu

section
variable {H : Type} {enc : TypeId × Value → H} {W : World}
/-- A slice of bytes that came in. -/
theorem open_bytes' {fuel : Nat} {v : Value} {x : DataW H × List MemPlace} (h : DataW.trod enc Try.prog W 0 (fun _ => true) true fuel 22 [v] = some x) :
    ∃ (A : Option Addr) (n c : Nat) (bs : List Nat), v = .slice A n c ∧ n ≤ maxLen ∧ n ≤ c ∧ bs.length = n ∧ (∀ y ∈ bs, y < 256) ∧ Rd W W.heap.size 1 A n (bs.map u8v) := by
  rcases open_slice1 Try.underlying22 (by kernel_rfl) h with ⟨hc, _⟩ | ⟨a, len, cap, m, n, V, D, Pl, hc, _, hl, hm, hmm, _, hcell⟩
  · simp at hc
    subst hc
    exact ⟨none, 0, 0, [], rfl, Nat.zero_le _, Nat.le_refl _, rfl, by simp, Rd.nil⟩
  · simp at hc
    subst hc
    simp only [if_true] at hmm
    subst hmm
    have hB : ∃ B : Nat → Nat, ∀ i, i < m → V i = .int .u8 (B i : Int) ∧ B i < 256 := by
      refine ⟨fun i => match V i with | .int _ q => q.toNat | _ => 0, fun i hi => ?_⟩
      obtain ⟨q, hq, _, hwf⟩ := DataW.trod_int Try.underlying5 (hcell i hi).2
      have hq' : V i = .int .u8 q := by simpa using hq
      have hr : 0 ≤ q ∧ q ≤ 255 := by
        have h0 : (decide (IntKind.min .u8 ≤ q) && decide (q ≤ IntKind.max .u8)) = true := hwf
        rw [show IntKind.min .u8 = 0 from rfl, show IntKind.max .u8 = 255 from rfl] at h0
        simpa using h0
      simp only [hq']
      refine ⟨?_, by omega⟩
      congr 1
      omega
    obtain ⟨B, hB⟩ := hB
    refine ⟨some a, len, m, (List.range len).map B, rfl, Nat.le_trans hl hm, hl, by simp, fun y hy => ?_, ?_⟩
    · obtain ⟨i, hi, rfl⟩ := List.mem_map.1 hy
      exact (hB i (by have := List.mem_range.1 hi; omega)).2
    · rw [List.map_map]
      exact Rd.of_cells fun i hi => by
        rw [(hcell i (by omega)).1, (hB i (by omega)).1]
        rfl
end
end Go.Proofs.Ytkldgcgijkfpaaa
