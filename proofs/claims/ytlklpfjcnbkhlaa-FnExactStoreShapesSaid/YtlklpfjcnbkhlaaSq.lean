/- Opening the laws' arguments: a list of shapes. -/
import Derived.Test.YtlklpfjcnbkhlaaOpen
import Derived.Test.YtlklpfjcnbkhlaaLp
import Derived.Deep.SlicePairs
namespace Go.Proofs.Ytlklpfjcnbkhlaa
open Go.RowKit Go.WideShapes Go.ChangeShapes Go.Deep

instance : Inhabited Shp := ⟨⟨⟨#[]⟩, 0, 0, none, 0, []⟩⟩
theorem Rd4.of_cells {W : World} {a : Addr} {len : Nat} {f : Nat → Value} (h : ∀ i, i < len * 4 → W.cell? (a.add i) = some (f i)) : Rd W W.heap.size 4 (some a) len ((List.range (len * 4)).map f) := by
  refine ⟨by simp, fun hn => ?_⟩
  have h0 := h 0 (by omega)
  have hb := World.block_lt_of_cell? W _ h0
  obtain ⟨b, off, sp⟩ := a
  have e0 : (⟨b, off, sp⟩ : Addr).add 0 = ⟨b, off, sp⟩ := rfl
  rw [e0] at h0 hb
  have hs : sp = none := by
    cases sp with
    | none => rfl
    | some x =>
      exfalso
      unfold World.cell? at h0
      split at h0
      · simp at h0
      · cases h0
  subst hs
  refine ⟨b, off, rfl, hb, fun j u hu => ?_⟩
  have hj : j < len * 4 := by
    have := (List.getElem?_eq_some_iff.1 hu).1
    simpa using this
  rw [List.getElem?_map, List.getElem?_range hj] at hu
  rw [← Addr.add_mid, h j hj]
  exact hu

theorem cellsShape : Try.prog.cellsOf 46 = 4 := by kernel_rfl
theorem cellsString : Try.prog.cellsOf 9 = 1 := by kernel_rfl
theorem cellsField' : Try.prog.cellsOf 44 = 3 := by kernel_rfl
theorem cellsI64 : Try.prog.cellsOf 2 = 1 := by kernel_rfl
theorem cellsBools : Try.prog.cellsOf 30 = 1 := by kernel_rfl
section
variable {H : Type} {enc : TypeId × Value → H} {W : World}
/-- The cells of one shape that came in. -/
theorem open_shapeCells {fuel : Nat} {cs : List Value} {x : DataW H × List MemPlace} (h : DataW.trod enc Try.prog W 0 (fun _ => true) true fuel 46 cs = some x) :
    ∃ s : Shp, cs = s.cells ∧ s.nm.size ≤ maxLen ∧ s.cs.length ≤ maxLen ∧ Rd W W.heap.size 1 s.A s.cs.length (s.cs.map bv) := by
  obtain ⟨xs, k, hk, hxy, hcl, hxl, hf⟩ := DataW.trod_struct Try.underlying46 h
  rw [cellsShape] at hcl
  match xs, hxl, cs, hcl with
  | [y0, y1], _, [v0, v1, v2, v3], _ =>
    have g0 : DataW.trod enc Try.prog W 0 (fun _ => true) true k 9 (([v0, v1, v2, v3].drop 0).take (Try.prog.cellsOf 9)) = some y0 := hf 0 _ rfl
    have g1 : DataW.trod enc Try.prog W 0 (fun _ => true) true k 44 (([v0, v1, v2, v3].drop 1).take (Try.prog.cellsOf 44)) = some y1 := hf 1 _ rfl
    rw [cellsString] at g0
    rw [cellsField'] at g1
    replace g0 : DataW.trod enc Try.prog W 0 (fun _ => true) true k 9 [v0] = some y0 := g0
    replace g1 : DataW.trod enc Try.prog W 0 (fun _ => true) true k 44 [v1, v2, v3] = some y1 := g1
    obtain ⟨nm, e0, _, hs⟩ := DataW.trod_string Try.underlying9 g0
    obtain ⟨zs, k', hk', hzy, hzl, hzl', hg⟩ := DataW.trod_struct Try.underlying44 g1
    match zs, hzl' with
    | [z0, z1, z2], _ =>
      have f0 : DataW.trod enc Try.prog W 0 (fun _ => true) true k' 2 (([v1, v2, v3].drop 0).take (Try.prog.cellsOf 2)) = some z0 := hg 0 _ rfl
      have f1 : DataW.trod enc Try.prog W 0 (fun _ => true) true k' 2 (([v1, v2, v3].drop 1).take (Try.prog.cellsOf 2)) = some z1 := hg 1 _ rfl
      have f2 : DataW.trod enc Try.prog W 0 (fun _ => true) true k' 30 (([v1, v2, v3].drop 2).take (Try.prog.cellsOf 30)) = some z2 := hg 2 _ rfl
      rw [cellsI64] at f0 f1
      rw [cellsBools] at f2
      replace f0 : DataW.trod enc Try.prog W 0 (fun _ => true) true k' 2 [v1] = some z0 := f0
      replace f1 : DataW.trod enc Try.prog W 0 (fun _ => true) true k' 2 [v2] = some z1 := f1
      replace f2 : DataW.trod enc Try.prog W 0 (fun _ => true) true k' 30 [v3] = some z2 := f2
      obtain ⟨a, e1, _, _⟩ := DataW.trod_int Try.underlying2 f0
      obtain ⟨b, e2, _, _⟩ := DataW.trod_int Try.underlying2 f1
      obtain ⟨A, n, c, bs, e3, q1, q2, q3⟩ := open_bools' f2
      simp at e0 e1 e2 e3
      subst e0 e1 e2 e3
      subst q2
      exact ⟨⟨nm, a, b, A, c, bs⟩, rfl, hs, q1, q3⟩

/-- A slice of shapes that came in. -/
theorem open_shapes {fuel : Nat} {v : Value} {x : DataW H × List MemPlace} (h : DataW.trod enc Try.prog W 0 (fun _ => true) true fuel 22 [v] = some x) :
    ∃ (A : Option Addr) (n c : Nat) (l : List Shp), v = .slice A n c ∧ n ≤ maxLen ∧ ShF l ∧ ShR W W.heap.size A n l := by
  rcases open_slice Try.underlying22 h with ⟨hc, _⟩ | ⟨a, len, cap, m, n, D, P, hc, _, hl, hm, hmm, _, hi⟩
  · simp at hc
    subst hc
    exact ⟨none, 0, 0, [], rfl, Nat.zero_le _, fun s hs => by simp at hs, rfl, Rd.nil, fun s hs => by simp at hs⟩
  · simp at hc
    subst hc
    have hml : len ≤ m := by rw [hmm]; simpa using hl
    have each : ∀ i, i < len → ∃ s : Shp, (∀ j u, s.cells[j]? = some u → W.cell? (a.add (i * 4 + j)) = some u) ∧ s.nm.size ≤ maxLen ∧ s.cs.length ≤ maxLen ∧ Rd W W.heap.size 1 s.A s.cs.length (s.cs.map bv) := by
      intro i hi'
      obtain ⟨cs', h1, h2⟩ := hi i (by omega)
      rw [cellsShape] at h1
      obtain ⟨_, hlen, hcell⟩ := World.cells?_some h1
      obtain ⟨s, rfl, q1, q2, q3⟩ := open_shapeCells h2
      refine ⟨s, fun j u hu => ?_, q1, q2, q3⟩
      have hj : j < 4 := (List.getElem?_eq_some_iff.1 hu).1
      have := hcell j (by omega)
      rw [add_add] at this
      rw [this, hu]
    obtain ⟨S, hS⟩ := choose_lt each
    have hlen : ((List.range len).map S).length = len := by simp
    have hget : ∀ i, i < len → ((List.range len).map S)[i]? = some (S i) := fun i hi => by rw [List.getElem?_map, List.getElem?_range hi]; rfl
    refine ⟨some a, len, cap, (List.range len).map S, rfl, Nat.le_trans hl hm, fun s hs => ?_, hlen, ?_, fun s hs => ?_⟩
    · obtain ⟨i, hi', rfl⟩ := List.mem_map.1 hs
      exact ⟨(hS i (List.mem_range.1 hi')).2.1, (hS i (List.mem_range.1 hi')).2.2.1⟩
    · have hcell : ∀ j, j < len * 4 → W.cell? (a.add j) = some ((shCells ((List.range len).map S)).getD j (.string ⟨#[]⟩)) := fun j hj => by
        have e : j = j / 4 * 4 + j % 4 := by omega
        have h1 := shCells_at ((List.range len).map S) (j / 4) (j % 4) (S (j / 4)) (hget _ (by omega)) (by omega)
        have h4 : j % 4 < (S (j / 4)).cells.length := by show j % 4 < 4; omega
        rw [List.getElem?_eq_getElem h4] at h1
        have h2 := (hS (j / 4) (by omega)).1 (j % 4) _ (List.getElem?_eq_getElem h4)
        rw [← e] at h1 h2
        rw [h2]
        simp [List.getD, h1]
      have hR := Rd4.of_cells hcell
      have e : (List.range (len * 4)).map (fun j => (shCells ((List.range len).map S)).getD j (.string ⟨#[]⟩)) = shCells ((List.range len).map S) := by
        refine List.ext_getElem (by rw [shCells_len]; simp) (fun i h1 h2 => ?_)
        simp only [List.getElem_map, List.getElem_range]
        simp [List.getD, List.getElem?_eq_getElem h2]
      rw [e] at hR
      exact hR
    · obtain ⟨i, hi', rfl⟩ := List.mem_map.1 hs
      exact (hS i (List.mem_range.1 hi')).2.2.2
end
end Go.Proofs.Ytlklpfjcnbkhlaa
