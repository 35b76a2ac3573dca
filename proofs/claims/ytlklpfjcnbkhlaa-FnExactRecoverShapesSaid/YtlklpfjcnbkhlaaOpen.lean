/- Opening the laws' arguments: a field; what a slice that came in reads as. -/
import Derived.Test.YtlklpfjcnbkhlaaRows
import Derived.Test.YtlklpfjcnbkhlaaMem
import Derived.Test.YtlklpfjcnbkhlaaSl
import Derived.Test.YtlklpfjcnbkhlaaPost
import Derived.Deep.Grids
import Derived.Deep.MidRow
import Derived.Lib.SmallJoins
namespace Go.Proofs.Ytlklpfjcnbkhlaa
open Go.RowKit Go.WideShapes Go.ChangeShapes Go.Deep

theorem own : ownKnob Try.prog.godebug = none := by kernel_rfl
theorem laidOut : laidOutB Try.prog = true := by kernel_rfl

theorem Rd.of_cells {W : World} {a : Addr} {len : Nat} {f : Nat → Value} (h : ∀ i, i < len → W.cell? (a.add i) = some (f i)) : Rd W W.heap.size 1 (some a) len ((List.range len).map f) := by
  refine ⟨by simp, fun hn => ?_⟩
  have h0 := h 0 hn
  have hb := World.block_lt_of_cell? W _ h0
  obtain ⟨b, off, sp⟩ := a
  have e0 : (⟨b, off, sp⟩ : Addr).add 0 = ⟨b, off, sp⟩ := rfl
  rw [e0] at h0 hb
  have hs : sp = none := by
    cases sp with
    | none => rfl
    | some x =>
      exfalso
      unfold World.cell? at h0
      split at h0
      · simp at h0
      · cases h0
  subst hs
  refine ⟨b, off, rfl, hb, fun j u hu => ?_⟩
  have hj : j < len := by
    have := (List.getElem?_eq_some_iff.1 hu).1
    simpa using this
  rw [List.getElem?_map, List.getElem?_range hj] at hu
  rw [← Addr.add_mid, h j hj]
  exact hu

section
variable {H : Type} {enc : TypeId × Value → H} {W : World}
/-- A slice of truth values that came in. -/
theorem open_bools' {fuel : Nat} {v : Value} {x : DataW H × List MemPlace} (h : DataW.trod enc Try.prog W 0 (fun _ => true) true fuel 30 [v] = some x) :
    ∃ (A : Option Addr) (n c : Nat) (cs : List Bool), v = .slice A n c ∧ n ≤ maxLen ∧ cs.length = n ∧ Rd W W.heap.size 1 A n (cs.map bv) := by
  rcases open_bools Try.underlying30 Try.underlying4 (by kernel_rfl) h with ⟨hc, _⟩ | ⟨a, len, cap, B, hc, _, hl, hm, _, hcell⟩
  · simp at hc
    subst hc
    exact ⟨none, 0, 0, [], rfl, Nat.zero_le _, rfl, Rd.nil⟩
  · simp at hc
    subst hc
    refine ⟨some a, len, cap, (List.range len).map B, rfl, Nat.le_trans hl hm, by simp, ?_⟩
    rw [List.map_map]
    exact Rd.of_cells fun i hi => hcell i (by omega)

theorem cellsField : Try.prog.cellsOf 44 = 3 := by kernel_rfl
set_option maxRecDepth 100000 in
/-- A field that came in. -/
theorem open_field {r : Reach} {b0 : Nat} {v : Value} {d : DataW H} {p : List MemPlace} (hv : Value.okWide Try.prog W r b0 44 v) (h : DataW.Trod enc Try.prog W 0 (fun _ => true) true 44 v d p) :
    ∃ (wd hi : Int) (A : Option Addr) (n c : Nat) (cs : List Bool), v = .agg #[.int .i64 wd, .int .i64 hi, .slice A n c] ∧ n ≤ maxLen ∧ cs.length = n ∧ Rd W W.heap.size 1 A n (cs.map bv) := by
  obtain ⟨v0, v1, v2, y0, y1, y2, m, rfl, _, _, h0, h1, h2⟩ := Joins.open_agg3 Try.underlying44 (by kernel_rfl) cellsField hv h
  obtain ⟨a, e0, _, _⟩ := DataW.trod_int Try.underlying2 h0
  obtain ⟨b, e1, _, _⟩ := DataW.trod_int Try.underlying2 h1
  obtain ⟨A, n, c, cs, rfl, q1, q2, q3⟩ := open_bools' h2
  simp at e0 e1
  subst e0 e1
  exact ⟨a, b, A, n, c, cs, rfl, q1, q2, q3⟩
end
end Go.Proofs.Ytlklpfjcnbkhlaa
