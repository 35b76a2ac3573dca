/- Opening the laws' arguments: a grammar. -/
import Derived.Test.YthgdikdcbkhgjaaRows
import Derived.Test.YthgdikdcbkhgjaaGv
import Derived.Test.YthgdikdcbkhgjaaPost
import Derived.Deep.SlicePairs
import Derived.Deep.Grids
import Derived.Lib.SmallJoins
import Derived.ChangeMaps5
namespace Go.Proofs.Ythgdikdcbkhgjaa
open Go.RowKit Go.WideShapes Go.ChangeShapes Go.Deep

theorem own : ownKnob Try.prog.godebug = none := by kernel_rfl
theorem laidOut : laidOutB Try.prog = true := by kernel_rfl

theorem Rd2.of_cells {W : World} {a : Addr} {len : Nat} {f : Nat → Value} (h : ∀ i, i < len * 2 → W.cell? (a.add i) = some (f i)) : Rd W W.heap.size 2 (some a) len ((List.range (len * 2)).map f) := by
  refine ⟨by simp, fun hn => ?_⟩
  have h0 := h 0 (by omega)
  have hb := World.block_lt_of_cell? W _ h0
  obtain ⟨b, off, sp⟩ := a
  have e0 : (⟨b, off, sp⟩ : Addr).add 0 = ⟨b, off, sp⟩ := rfl
  rw [e0] at h0 hb
  have hs : sp = none := by
    cases sp with
    | none => rfl
    | some x =>
      exfalso
      unfold World.cell? at h0
      split at h0
      · simp at h0
      · cases h0
  subst hs
  refine ⟨b, off, rfl, hb, fun j u hu => ?_⟩
  have hj : j < len * 2 := by
    have := (List.getElem?_eq_some_iff.1 hu).1
    simpa using this
  rw [List.getElem?_map, List.getElem?_range hj] at hu
  rw [← Addr.add_mid, h j hj]
  exact hu

def strOf : Value → ByteArray
  | .string s => s
  | _ => ⟨#[]⟩

section
variable {H : Type} {enc : TypeId × Value → H} {W : World}
/-- A slice of rules that came in. -/
theorem open_rules {fuel : Nat} {v : Value} {x : DataW H × List MemPlace} (h : DataW.trod enc Try.prog W 0 (fun _ => true) true fuel 38 [v] = some x) :
    ∃ (A : Option Addr) (n c : Nat) (rs : List (ByteArray × ByteArray)), v = .slice A n c ∧ n ≤ maxLen ∧ rs.length = n ∧ Fits rs ∧ Rd W W.heap.size 2 A n (rcells rs) := by
  rcases open_slice_pairs Try.underlying38 Try.underlying69 (by kernel_rfl) rfl rfl (by kernel_rfl) (by kernel_rfl) h with ⟨hc, _⟩ | ⟨a, len, cap, m, n, V0, V1, D0, D1, P0, P1, hc, _, hl, hm, hmm, _, hi⟩
  · simp at hc
    subst hc
    exact ⟨none, 0, 0, [], rfl, Nat.zero_le _, rfl, fun k r h => by simp at h, Rd.nil⟩
  · simp at hc
    subst hc
    have hml : len ≤ m := by rw [hmm]; simpa using hl
    have s0 : ∀ i, i < len → ∃ s : ByteArray, V0 i = .string s ∧ s.size ≤ maxLen := fun i h => by
      obtain ⟨_, _, q, _⟩ := hi i (by omega)
      obtain ⟨s, e, _, hs⟩ := DataW.trod_string Try.underlying9 q
      simp at e
      exact ⟨s, e, hs⟩
    have s1 : ∀ i, i < len → ∃ s : ByteArray, V1 i = .string s ∧ s.size ≤ maxLen := fun i h => by
      obtain ⟨_, _, _, q⟩ := hi i (by omega)
      obtain ⟨s, e, _, hs⟩ := DataW.trod_string Try.underlying9 q
      simp at e
      exact ⟨s, e, hs⟩
    refine ⟨some a, len, cap, (List.range len).map fun i => (strOf (V0 i), strOf (V1 i)), rfl, Nat.le_trans hl hm, by simp, fun k r h => ?_, ?_⟩
    · have hk : k < len := by have := (List.getElem?_eq_some_iff.1 h).1; simpa using this
      rw [List.getElem?_map, List.getElem?_range hk] at h
      simp at h
      subst h
      obtain ⟨t0, e0, f0⟩ := s0 k hk
      obtain ⟨t1, e1, f1⟩ := s1 k hk
      simp only [e0, e1, strOf]
      exact ⟨f0, f1⟩
    · have hcell : ∀ j, j < len * 2 → W.cell? (a.add j) = some ((rcells ((List.range len).map fun i => (strOf (V0 i), strOf (V1 i)))).getD j (.string ⟨#[]⟩)) := fun j hj => by
        obtain ⟨q1, q2⟩ := rcells_get ((List.range len).map fun i => (strOf (V0 i), strOf (V1 i))) (j / 2) (strOf (V0 (j / 2)), strOf (V1 (j / 2))) (by rw [List.getElem?_map, List.getElem?_range (by omega)]; rfl)
        obtain ⟨c0, c1, _, _⟩ := hi (j / 2) (by omega)
        obtain ⟨t0, e0, _⟩ := s0 (j / 2) (by omega)
        obtain ⟨t1, e1, _⟩ := s1 (j / 2) (by omega)
        rcases Nat.mod_two_eq_zero_or_one j with hm | hm
        · have ej : j = j / 2 * 2 := by omega
          rw [ej, getD_of q1, c0, e0]; rfl
        · have ej : j = j / 2 * 2 + 1 := by omega
          rw [ej, getD_of q2, c1, e1]; rfl
      have hR := Rd2.of_cells hcell
      have e : (List.range (len * 2)).map (fun j => (rcells ((List.range len).map fun i => (strOf (V0 i), strOf (V1 i)))).getD j (.string ⟨#[]⟩)) = rcells ((List.range len).map fun i => (strOf (V0 i), strOf (V1 i))) := by
        refine List.ext_getElem (by rw [rcells_len]; simp) (fun i h1 h2 => ?_)
        simp only [List.getElem_map, List.getElem_range]
        exact getD_of (List.getElem?_eq_getElem h2)
      rw [e] at hR
      exact hR

theorem cellsGrammar : Try.prog.cellsOf 40 = 2 := by kernel_rfl
set_option maxRecDepth 100000 in
/-- A grammar that came in. -/
theorem open_grammar {r : Reach} {b0 : Nat} {v : Value} {d : DataW H} {p : List MemPlace} (hv : Value.okWide Try.prog W r b0 40 v) (h : DataW.Trod enc Try.prog W 0 (fun _ => true) true 40 v d p) :
    ∃ (s : ByteArray) (A : Option Addr) (n c : Nat) (rs : List (ByteArray × ByteArray)), v = .agg #[.string s, .slice A n c] ∧ s.size ≤ maxLen ∧ n ≤ maxLen ∧ rs.length = n ∧ Fits rs ∧ Rd W W.heap.size 2 A n (rcells rs) := by
  obtain ⟨v0, v1, y0, y1, m, rfl, _, _, h0, h1⟩ := Joins.open_agg2 Try.underlying40 (by kernel_rfl) cellsGrammar hv h
  obtain ⟨s, e0, _, hs⟩ := DataW.trod_string Try.underlying9 h0
  obtain ⟨A, n, c, rs, rfl, q1, q2, q3, q4⟩ := open_rules h1
  simp at e0
  subst e0
  exact ⟨s, A, n, c, rs, rfl, hs, q1, q2, q3, q4⟩
end
end Go.Proofs.Ythgdikdcbkhgjaa
