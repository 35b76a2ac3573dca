/- Opening the laws' arguments: a sheet; what a slice that came in reads as. -/
import Derived.Test.YtbkacmklgkgamaaRows
import Derived.Test.YtbkacmklgkgamaaMem
import Derived.Test.YtbkacmklgkgamaaHd
import Derived.Carry
import Derived.Test.YtbkacmklgkgamaaPost
import Derived.Deep.Grids
import Derived.Laws.Cover2
import Derived.Deep.MidRow
import Derived.Lib.SmallJoins
namespace Go.Proofs.Ytbkacmklgkgamaa
open Go.RowKit Go.WideShapes Go.ChangeShapes Go.Deep

theorem own : ownKnob Try.prog.godebug = none := by kernel_rfl
theorem laidOut : laidOutB Try.prog = true := by kernel_rfl

theorem Rd.of_cells {W : World} {a : Addr} {len : Nat} {f : Nat → Value} (h : ∀ i, i < len → W.cell? (a.add i) = some (f i)) : Rd W W.heap.size 1 (some a) len ((List.range len).map f) := by
  refine ⟨by simp, fun hn => ?_⟩
  have h0 := h 0 hn
  have hb := World.block_lt_of_cell? W _ h0
  obtain ⟨b, off, sp⟩ := a
  have e0 : (⟨b, off, sp⟩ : Addr).add 0 = ⟨b, off, sp⟩ := rfl
  rw [e0] at h0 hb
  have hs : sp = none := by
    cases sp with
    | none => rfl
    | some x =>
      exfalso
      unfold World.cell? at h0
      split at h0
      · simp at h0
      · cases h0
  subst hs
  refine ⟨b, off, rfl, hb, fun j u hu => ?_⟩
  have hj : j < len := by
    have := (List.getElem?_eq_some_iff.1 hu).1
    simpa using this
  rw [List.getElem?_map, List.getElem?_range hj] at hu
  rw [← Addr.add_mid, h j hj]
  exact hu

section
variable {H : Type} {enc : TypeId × Value → H} {W : World}
theorem trod_flt {P : Program} {w : World} {b0 : Nat} {sp : Nat → Bool} {held : Bool} {e : TypeId} {n : Nat} {v : Value} {x : DataW H × List MemPlace} (he : P.underlying e = some (.float .f32)) (h : DataW.trod enc P w b0 sp held n e [v] = some x) : ∃ q, v = .float .f32 q := by
  cases n with
  | zero => simp [DataW.trod] at h
  | succ n =>
    simp only [DataW.trod, he] at h
    cases v with
    | float k q =>
      cases k with
      | f32 => exact ⟨q, rfl⟩
      | f64 => simp at h
    | _ => simp at h
/-- A slice of single numbers that came in. -/
theorem open_floats' {fuel : Nat} {v : Value} {x : DataW H × List MemPlace} (h : DataW.trod enc Try.prog W 0 (fun _ => true) true fuel 45 [v] = some x) :
    ∃ (A : Option Addr) (n c : Nat) (cs : List Nat), v = .slice A n c ∧ n ≤ maxLen ∧ cs.length = n ∧ Rd W W.heap.size 1 A n (cs.map fv) := by
  rcases open_slice1 Try.underlying45 (by kernel_rfl) h with ⟨hc, _⟩ | ⟨a, len, cap, m, n, V, D, Pl, hc, _, hl, hm, hmm, _, hcell⟩
  · simp at hc
    subst hc
    exact ⟨none, 0, 0, [], rfl, Nat.zero_le _, rfl, Rd.nil⟩
  · simp at hc
    subst hc
    simp only [if_true] at hmm
    subst hmm
    obtain ⟨B, hB⟩ : ∃ B : Nat → Nat, ∀ i, i < m → V i = .float .f32 (B i) := by
      refine ⟨fun i => match V i with | .float _ q => q | _ => 0, fun i hi => ?_⟩
      obtain ⟨q, hq⟩ := trod_flt Try.underlying50 (hcell i hi).2
      show V i = .float .f32 (match V i with | .float _ q => q | _ => 0)
      rw [hq]
    refine ⟨some a, len, m, (List.range len).map B, rfl, Nat.le_trans hl hm, by simp, ?_⟩
    rw [List.map_map]
    exact Rd.of_cells fun i hi => by
      rw [(hcell i (by omega)).1, hB i (by omega)]
      rfl

theorem trodAll_six {P : Program} {w : World} {base : Nat} {spare : Nat → Bool} {held : Bool} {t0 t1 t2 t3 t4 t5 : TypeId} {args : Array Value} {ds : List (DataW H)} {ps : List MemPlace} (h : DataW.TrodAll enc P w base spare held [t0, t1, t2, t3, t4, t5] args.toList ds ps) :
    ∃ v0 v1 v2 v3 v4 v5 d0 d1 d2 d3 d4 d5 p0 p1 p2 p3 p4 p5, args = #[v0, v1, v2, v3, v4, v5] ∧ ds = [d0, d1, d2, d3, d4, d5] ∧ ps = p0 ++ p1 ++ p2 ++ p3 ++ p4 ++ p5 ∧ DataW.Trod enc P w base spare held t0 v0 d0 p0 ∧ DataW.Trod enc P w base spare held t1 v1 d1 p1 ∧ DataW.Trod enc P w base spare held t2 v2 d2 p2 ∧
      DataW.Trod enc P w base spare held t3 v3 d3 p3 ∧ DataW.Trod enc P w base spare held t4 v4 d4 p4 ∧ DataW.Trod enc P w base spare held t5 v5 d5 p5 := by
  obtain ⟨v0, vs, d0, ds', p0, q, hargs, rfl, rfl, h0, hr⟩ := trodAll_cons h
  obtain ⟨v1, vs1, d1, ds1, p1, q1, rfl, rfl, rfl, h1, hr⟩ := trodAll_cons hr
  obtain ⟨v2, vs2, d2, ds2, p2, q2, rfl, rfl, rfl, h2, hr⟩ := trodAll_cons hr
  obtain ⟨v3, vs3, d3, ds3, p3, q3, rfl, rfl, rfl, h3, hr⟩ := trodAll_cons hr
  obtain ⟨v4, vs4, d4, ds4, p4, q4, rfl, rfl, rfl, h4, hr⟩ := trodAll_cons hr
  obtain ⟨v5, vs5, d5, ds5, p5, q5, rfl, rfl, rfl, h5, hr⟩ := trodAll_cons hr
  obtain ⟨rfl, rfl, rfl⟩ := trodAll_nil hr
  exact ⟨v0, v1, v2, v3, v4, v5, d0, d1, d2, d3, d4, d5, p0, p1, p2, p3, p4, p5, by cases args; simp_all, rfl, by simp, h0, h1, h2, h3, h4, h5⟩
end
end Go.Proofs.Ytbkacmklgkgamaa
