/- Plain law: a ring has one hole, an empty field has none. Conditions: none. -/
import Derived.Test.YtejmpijihmmajaaGmh
namespace Go.Proofs.Ytejmpijihmmajaa

def ringD : List Nat := [0, 1, 2, 3, 4, 5, 9, 10, 14, 15, 16, 17, 18, 19]
def ring0 : List Bool := List.replicate 20 false
def ring1 : List Bool := [true, true, true, true, true, true, false, false, false, true, true, false, false, false, true, true, true, true, true, true]
theorem ring_flip : flips ringD ring0 = ring1 := by decide +kernel
theorem ring_back : flips ringD ring1 = ring0 := by decide +kernel
theorem ring_lt : ∀ x ∈ ringD, x < 20 := by decide +kernel
theorem ring_inc : Inc ringD := by
  have h : ∀ j : Fin 13, ringD.getD j.1 0 < ringD.getD (j.1 + 1) 0 := by decide +kernel
  intro j hj
  have e : ringD.length = 14 := rfl
  exact h ⟨j, by omega⟩
theorem nb54 : ∀ j < 20, ∀ b ∈ nbs 5 4 j, b < 20 ∧ j ∈ nbs 5 4 b := by
  have : ∀ j : Fin 20, ∀ b ∈ nbs 5 4 j.1, b < 20 ∧ j.1 ∈ nbs 5 4 b := by decide +kernel
  exact fun j hj => this ⟨j, hj⟩
theorem count_all {O : List Bool} (h : ∀ g < O.length, O.getD g false = true) : O.countP (fun b => !b) = 0 := by
  rw [List.countP_eq_zero]
  intro b hb
  obtain ⟨i, hi, e⟩ := List.getElem_of_mem hb
  have := h i hi
  rw [List.getD_eq_getElem?_getD, List.getElem?_eq_getElem hi, e] at this
  have : b = true := this
  rw [this]; decide
theorem ring_none {x : Nat} (h : Holes ring0 5 4 20 x) : x = 0 := by
  obtain ⟨ts, sz, O, G, OP, rfl⟩ := h
  have K := gok_of (fun j hj b hb => (nb54 j hj b hb).1) (fun j hj b hb => (nb54 j hj b hb).2) (Nat.le_refl _) G
  have hc : ∀ j < 20, (ring0.map (!·)).getD j false = true := by
    have : ∀ j : Fin 20, (ring0.map (!·)).getD j.1 false = true := by decide +kernel
    exact fun j hj => this ⟨j, hj⟩
  have h0 : ∀ j < 20, 0 ≤ ts.getD j 0 := fun j hj => K.some_ j hj hj (hc j hj)
  have hdn : ∀ j : Fin 20, j.1 = 0 ∨ ∃ b : Fin 20, b.1 < j.1 ∧ b.1 ∈ nbs 5 4 j.1 := by decide +kernel
  have hall : ∀ m : Nat, ∀ j, j ≤ m → j < 20 → ts.getD j 0 = ts.getD 0 0 := by
    intro m
    induction m with
    | zero => intro j hj _; rw [show j = 0 by omega]
    | succ m ih =>
      intro j hj hj2
      rcases hdn ⟨j, hj2⟩ with e | ⟨b, hb, hbm⟩
      · rw [show j = 0 from e]
      · have hb' : b.1 < j := hb
        rw [← K.side j hj2 (h0 j hj2) b.1 hbm (hc b.1 b.2)]
        exact ih b.1 (by omega) b.2
  refine count_all fun g hg => ?_
  have hgn : g < sz.length := by rw [OP.len] at hg; exact hg
  obtain ⟨j, hj, e⟩ := grp_cell G g hgn
  refine (OP.iff g hgn).2 ⟨0, by decide, ?_, by decide⟩
  rw [← hall j j (Nat.le_refl _) hj, e]
theorem ring_one {x : Nat} (h : Holes ring1 5 4 20 x) : x = 1 := by
  obtain ⟨ts, sz, O, G, OP, rfl⟩ := h
  have K := gok_of (fun j hj b hb => (nb54 j hj b hb).1) (fun j hj b hb => (nb54 j hj b hb).2) (Nat.le_refl _) G
  have hin : ∀ j : Fin 20, (ring1.map (!·)).getD j.1 false = true → j.1 = 6 ∨ j.1 = 7 ∨ j.1 = 8 ∨ j.1 = 11 ∨ j.1 = 12 ∨ j.1 = 13 := by decide +kernel
  have c6 : (ring1.map (!·)).getD 6 false = true := by decide +kernel
  have h6 : 0 ≤ ts.getD 6 0 := K.some_ 6 (by decide) (by decide) c6
  have e7 : ts.getD 7 0 = ts.getD 6 0 := K.side 6 (by decide) h6 7 (by decide +kernel) (by decide +kernel)
  have e11 : ts.getD 11 0 = ts.getD 6 0 := K.side 6 (by decide) h6 11 (by decide +kernel) (by decide +kernel)
  have e8 : ts.getD 8 0 = ts.getD 7 0 := K.side 7 (by decide) (by rw [e7]; exact h6) 8 (by decide +kernel) (by decide +kernel)
  have e12 : ts.getD 12 0 = ts.getD 7 0 := K.side 7 (by decide) (by rw [e7]; exact h6) 12 (by decide +kernel) (by decide +kernel)
  have e13 : ts.getD 13 0 = ts.getD 8 0 := K.side 8 (by decide) (by rw [e8, e7]; exact h6) 13 (by decide +kernel) (by decide +kernel)
  have hall : ∀ j < 20, 0 ≤ ts.getD j 0 → ts.getD j 0 = ts.getD 6 0 ∧ (nbs 5 4 j).length = 4 := by
    intro j hj h0
    have hc : (ring1.map (!·)).getD j false = true := by
      cases hh : (ring1.map (!·)).getD j false with
      | true => rfl
      | false => have := K.none_ j hj hh; omega
    rcases hin ⟨j, hj⟩ hc with e | e | e | e | e | e <;> (have e' : j = _ := e; subst e') <;> refine ⟨by omega, by decide⟩
  have hlen : sz.length = 1 := by
    have h1 := K.hi 6 (by decide)
    have h2 : ∀ g < sz.length, (g : Int) = ts.getD 6 0 := fun g hg => by
      obtain ⟨j, hj, e⟩ := grp_cell G g hg
      rw [← e]
      exact (hall j hj (by omega)).1
    have q1 := fun hg => h2 0 hg
    have q2 := fun hg => h2 1 hg
    by_cases c : sz.length = 0
    · omega
    · by_cases c1 : sz.length = 1
      · exact c1
      · have a1 := q1 (by omega)
        have a2 := q2 (by omega)
        omega
  have hO : O.getD 0 false = false := by
    cases hh : O.getD 0 false with
    | false => rfl
    | true =>
      obtain ⟨i, hi, e, h4⟩ := (OP.iff 0 (by omega)).1 hh
      have := (hall i hi (by omega)).2
      omega
  have hOl : O.length = 1 := by rw [OP.len, hlen]
  match O, hOl, hO with
  | [b], _, hO =>
    have : b = false := hO
    rw [this]; rfl
end Go.Proofs.Ytejmpijihmmajaa
