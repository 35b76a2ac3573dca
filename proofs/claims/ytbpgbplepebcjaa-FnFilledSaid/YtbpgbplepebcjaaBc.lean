/- Walk: the boxes that maps lead the middles of boxes to. Conditions: sides of 1 to 8, at most 4 maps, as the reference draws them. -/
import Derived.Test.YtbpgbplepebcjaaBb
import Derived.Test.YtbpgbplepebcjaaRep
namespace Go.Proofs.Ytbpgbplepebcjaa
open Go.RowKit
open Num Quick
attribute [local go_sem] run_store_fl run_store_cx

theorem made_bool (n : Nat) : (madeCells (Value.bool false).cells (n * 1)).toList = (List.replicate n false).map bv := by
  have : ∀ v : Value, (madeCells #[v] (n * 1)).toList = List.replicate n v := by
    intro v
    unfold madeCells
    refine List.ext_getElem (by simp) fun i h1 h2 => ?_
    simp [Nat.mod_one]
  rw [List.map_replicate]
  exact this _
def PartO (L : List Sm) (side : Nat) (M : List Bool) (i : Nat) (O : List Bool) : Prop := O.length = side * side ∧ ∀ j, j < side * side → (O.getD j false = true ↔ ∃ i' x, i' < i ∧ x ∈ L ∧ M.getD i' false = true ∧ hitOf x side i' = some j)
def PartI (L : List Sm) (side : Nat) (M : List Bool) (i k : Nat) (O : List Bool) : Prop := O.length = side * side ∧ ∀ j, j < side * side → (O.getD j false = true ↔ (∃ i' x, i' < i ∧ x ∈ L ∧ M.getD i' false = true ∧ hitOf x side i' = some j) ∨ ∃ k' x, k' < k ∧ L[k']? = some x ∧ hitOf x side i = some j)
theorem part_start (L : List Sm) (side : Nat) (M : List Bool) : PartO L side M 0 (List.replicate (side * side) false) := by
  refine ⟨by simp, fun j hj => ?_⟩
  rw [List.getD_eq_getElem?_getD, List.getElem?_replicate, if_pos hj]
  constructor
  · intro h; cases h
  · rintro ⟨i', x, h, _⟩; omega
theorem part_skip {L : List Sm} {side : Nat} {M : List Bool} {i : Nat} {O : List Bool} (h : PartO L side M i O) (hm : M.getD i false = false) : PartO L side M (i + 1) O := by
  refine ⟨h.1, fun j hj => (h.2 j hj).trans ⟨?_, ?_⟩⟩
  · rintro ⟨i', x, h1, h2⟩; exact ⟨i', x, by omega, h2⟩
  · rintro ⟨i', x, h1, h2, h3, h4⟩
    rcases Nat.lt_or_eq_of_le (Nat.le_of_lt_succ h1) with c | c
    · exact ⟨i', x, c, h2, h3, h4⟩
    · rw [c, hm] at h3; cases h3
theorem part_in {L : List Sm} {side : Nat} {M : List Bool} {i : Nat} {O : List Bool} (h : PartO L side M i O) : PartI L side M i 0 O :=
  ⟨h.1, fun j hj => (h.2 j hj).trans ⟨.inl, fun h => by
    rcases h with h | ⟨k', x, h1, _⟩
    · exact h
    · omega⟩⟩
theorem part_out {L : List Sm} {side : Nat} {M : List Bool} {i k : Nat} {O : List Bool} (h : PartI L side M i k O) (hk : L.length ≤ k) (hm : M.getD i false = true) : PartO L side M (i + 1) O := by
  refine ⟨h.1, fun j hj => (h.2 j hj).trans ⟨?_, ?_⟩⟩
  · rintro (⟨i', x, h1, h2⟩ | ⟨k', x, h1, h2, h3⟩)
    · exact ⟨i', x, by omega, h2⟩
    · exact ⟨i, x, by omega, List.mem_of_getElem? h2, hm, h3⟩
  · rintro ⟨i', x, h1, h2, h3, h4⟩
    rcases Nat.lt_or_eq_of_le (Nat.le_of_lt_succ h1) with c | c
    · exact .inl ⟨i', x, c, h2, h3, h4⟩
    · obtain ⟨k', hk', e⟩ := List.getElem_of_mem h2
      exact .inr ⟨k', x, by omega, by rw [List.getElem?_eq_getElem hk', e], by rw [← c]; exact h4⟩
theorem part_none {L : List Sm} {side : Nat} {M : List Bool} {i k : Nat} {O : List Bool} {x : Sm} (h : PartI L side M i k O) (hx : L[k]? = some x) (ht : hitOf x side i = none) : PartI L side M i (k + 1) O := by
  refine ⟨h.1, fun j hj => (h.2 j hj).trans ⟨?_, ?_⟩⟩
  · rintro (h1 | ⟨k', y, h1, h2⟩)
    · exact .inl h1
    · exact .inr ⟨k', y, by omega, h2⟩
  · rintro (h1 | ⟨k', y, h1, h2, h3⟩)
    · exact .inl h1
    · rcases Nat.lt_or_eq_of_le (Nat.le_of_lt_succ h1) with c | c
      · exact .inr ⟨k', y, c, h2, h3⟩
      · subst c
        rw [hx] at h2
        cases h2
        rw [ht] at h3
        cases h3
theorem part_some {L : List Sm} {side : Nat} {M : List Bool} {i k t : Nat} {O : List Bool} {x : Sm} (h : PartI L side M i k O) (hx : L[k]? = some x) (ht : hitOf x side i = some t) (htn : t < side * side) : PartI L side M i (k + 1) (O.set t true) := by
  refine ⟨by rw [List.length_set]; exact h.1, fun j hj => ?_⟩
  have hl := h.1
  rw [List.getD_eq_getElem?_getD, List.getElem?_set]
  by_cases c : t = j
  · subst c
    rw [if_pos rfl, if_pos (by omega)]
    exact ⟨fun _ => .inr ⟨k, x, by omega, hx, ht⟩, fun _ => rfl⟩
  · rw [if_neg c, ← List.getD_eq_getElem?_getD]
    refine (h.2 j hj).trans ⟨?_, ?_⟩
    · rintro (h1 | ⟨k', y, h1, h2⟩)
      · exact .inl h1
      · exact .inr ⟨k', y, by omega, h2⟩
    · rintro (h1 | ⟨k', y, h1, h2, h3⟩)
      · exact .inl h1
      · rcases Nat.lt_or_eq_of_le (Nat.le_of_lt_succ h1) with c' | c'
        · exact .inr ⟨k', y, c', h2, h3⟩
        · subst c'
          rw [hx] at h2
          cases h2
          rw [ht] at h3
          exact absurd (Option.some.inj h3) c
theorem part_img {L : List Sm} {side : Nat} {M O : List Bool} (h : PartO L side M (side * side) O) : O = imgOf L side M := by
  have h2 : Img L side M O := ⟨h.1, fun j hj => (h.2 j hj).trans ⟨fun ⟨i, x, a, b⟩ => ⟨i, x, a, b⟩, fun ⟨i, x, a, b⟩ => ⟨i, x, a, b⟩⟩⟩
  exact h2.uniq (imgOf_img L side M)
end Go.Proofs.Ytbpgbplepebcjaa
