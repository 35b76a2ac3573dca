/- Plain law (no program): the path that goes down in time, and the cell of the last row that burns first. Conditions: none. -/
import Derived.Test.YtknonmfffcjonaaPf
import Derived.Test.YtknonmfffcjonaaNb
namespace Go.Proofs.Ytknonmfffcjonaa

/-- The cell of the last row that burns first, of k cells. -/
def bestTo (T : List Int) (R : Nat) : Nat → Int
  | 0 => -1
  | k + 1 => if 0 ≤ T.getD (R + k) (-1) ∧ (bestTo T R k < 0 ∨ T.getD (R + k) (-1) < T.getD (bestTo T R k).toNat (-1)) then ((R + k : Nat) : Int) else bestTo T R k
theorem bestTo_bd (T : List Int) (R : Nat) : ∀ k, -1 ≤ bestTo T R k ∧ bestTo T R k < ((R + k : Nat) : Int) ∧ (0 ≤ bestTo T R k → 0 ≤ T.getD (bestTo T R k).toNat (-1)) := by
  intro k
  induction k with
  | zero => unfold bestTo; exact ⟨by omega, by omega, fun h => by omega⟩
  | succ k ih =>
    unfold bestTo
    split
    · rename_i h
      refine ⟨by omega, by omega, fun _ => ?_⟩
      rw [Int.toNat_natCast]
      exact h.1
    · exact ⟨ih.1, by omega, ih.2.2⟩
theorem bestTo_yes {T : List Int} {R k : Nat} (h : 0 ≤ T.getD (R + k) (-1) ∧ (bestTo T R k < 0 ∨ T.getD (R + k) (-1) < T.getD (bestTo T R k).toNat (-1))) : bestTo T R (k + 1) = ((R + k : Nat) : Int) := by
  conv => lhs; unfold bestTo
  exact if_pos h
theorem bestTo_no {T : List Int} {R k : Nat} (h : ¬ (0 ≤ T.getD (R + k) (-1) ∧ (bestTo T R k < 0 ∨ T.getD (R + k) (-1) < T.getD (bestTo T R k).toNat (-1)))) : bestTo T R (k + 1) = bestTo T R k := by
  conv => lhs; unfold bestTo
  exact if_neg h

/-- Whether cell b burns one time ahead of cell a. -/
def ahead (T : List Int) (a b : Nat) : Bool := decide (T.getD b (-1) = T.getD a (-1) - 1)
def nextTo (T : List Int) (bs : List Nat) (a k : Nat) : Nat := ((bs.take k).find? (ahead T a)).getD a
def nextOf (T : List Int) (bs : List Nat) (a : Nat) : Nat := (bs.find? (ahead T a)).getD a
theorem nextTo_zero (T : List Int) (bs : List Nat) (a : Nat) : nextTo T bs a 0 = a := rfl
theorem nextTo_all (T : List Int) (bs : List Nat) (a : Nat) : nextTo T bs a bs.length = nextOf T bs a := by unfold nextTo nextOf; rw [List.take_length]
theorem ahead_ne {T : List Int} {a b : Nat} (h : ahead T a b = true) : b ≠ a := by
  rintro rfl
  unfold ahead at h
  simp at h
  omega
theorem nextTo_succ {T : List Int} {bs : List Nat} {a k b : Nat} (h : bs[k]? = some b) : nextTo T bs a (k + 1) = if nextTo T bs a k = a ∧ ahead T a b = true then b else nextTo T bs a k := by
  unfold nextTo
  rw [List.take_add_one, h, List.find?_append]
  cases e : (bs.take k).find? (ahead T a) with
  | none =>
    simp only [Option.toList_some, Option.none_or, Option.getD_none, true_and]
    cases e2 : ahead T a b <;> simp [List.find?, e2]
  | some x =>
    have := ahead_ne (List.find?_some e)
    simp [this]
theorem nextOf_spec {T : List Int} {bs : List Nat} {a : Nat} (h : ∃ b ∈ bs, T.getD b (-1) = T.getD a (-1) - 1) : nextOf T bs a ∈ bs ∧ T.getD (nextOf T bs a) (-1) = T.getD a (-1) - 1 := by
  unfold nextOf
  cases e : bs.find? (ahead T a) with
  | none =>
    obtain ⟨b, hb, hh⟩ := h
    have := (List.find?_eq_none.1 e) b hb
    unfold ahead at this
    simp at this
    exact absurd hh this
  | some x =>
    have h1 := List.find?_some e
    unfold ahead at h1
    exact ⟨List.mem_of_find?_eq_some e, by simpa using h1⟩
theorem nextOf_eq {T : List Int} {bs : List Nat} {a k b : Nat} (h : bs[k]? = some b) (hb : ahead T a b = true) (hn : ∀ y ∈ bs.take k, ahead T a y = false) : nextOf T bs a = b := by
  have hk := (List.getElem?_eq_some_iff.1 h).1
  have h1 : nextTo T bs a (k + 1) = b := by
    rw [nextTo_succ h]
    have : nextTo T bs a k = a := by
      unfold nextTo
      rw [List.find?_eq_none.2 (fun x hx => by rw [hn x hx]; simp)]
      rfl
    rw [if_pos ⟨this, hb⟩]
  unfold nextTo at h1
  unfold nextOf
  conv => lhs; rw [← List.take_append_drop (k + 1) bs]
  rw [List.find?_append]
  cases e : (bs.take (k + 1)).find? (ahead T a) with
  | none =>
    have hm : b ∈ bs.take (k + 1) := by rw [List.take_add_one, h]; simp
    have := (List.find?_eq_none.1 e) b hm
    exact absurd hb this
  | some x => rw [e] at h1; exact h1

/-- The path from cell a down, of f steps. -/
def pathTo (T : List Int) (nb : Nat → List Nat) : Nat → Nat → List Nat
  | 0, a => [a]
  | f + 1, a => a :: pathTo T nb f (nextOf T (nb a) a)
theorem pathTo_len (T : List Int) (nb : Nat → List Nat) : ∀ f a, (pathTo T nb f a).length = f + 1 := by
  intro f
  induction f with
  | zero => intro a; rfl
  | succ f ih => intro a; unfold pathTo; rw [List.length_cons, ih]
/-- What FirstPath gives. -/
def pathOf (T : List Int) (nb : Nat → List Nat) (a : Nat) : List Nat := pathTo T nb (T.getD a (-1)).toNat a
theorem pathOf_zero {T : List Int} {nb : Nat → List Nat} {a : Nat} (h : T.getD a (-1) ≤ 0) : pathOf T nb a = [a] := by
  unfold pathOf
  rw [show (T.getD a (-1)).toNat = 0 from by omega]
  rfl
theorem pathOf_step {T : List Int} {nb : Nat → List Nat} {a : Nat} (h : 0 < T.getD a (-1)) (hd : Down nb T) : pathOf T nb a = a :: pathOf T nb (nextOf T (nb a) a) := by
  have h1 := (nextOf_spec (bs := nb a) (hd a h)).2
  unfold pathOf
  rw [h1, show (T.getD a (-1)).toNat = (T.getD a (-1) - 1).toNat + 1 from by omega]
  rfl

section
variable {cs : List Bool} {N : Nat} {nb : Nat → List Nat}
theorem lrun_inv (hnb : ∀ i < N, ∀ b ∈ nb i, b < N) : ∀ {F : Nat} {ts : List Int} {now : List Nat} {last : Int}, BInv N ts now → (∀ i ∈ now, ts.getD i (-1) = last + 1) → -1 ≤ last →
    BInv N (lrun cs nb F ts now last).1 [] := by
  intro F
  induction F with
  | zero => intro ts now last hi _ _; exact ⟨hi.len, fun _ h => by simp at h, hi.lo, hi.hi⟩
  | succ F ih =>
    intro ts now last hi hn hl
    unfold lrun
    split
    · exact ⟨hi.len, fun _ h => by simp at h, hi.lo, hi.hi⟩
    · rename_i hne
      obtain ⟨i0, hi0⟩ := List.exists_mem_of_ne_nil _ hne
      have htb : last + 1 ≤ burnt ts := by
        have h1 := hi.hi i0
        rw [(getD_pos (hn i0 hi0) (by omega)).1] at h1
        exact h1
      have hnew0 : New (N := N) (last + 1 + 1) ts [] (burnt ts) := ⟨fun _ h => by simp at h, fun _ h => by simp at h, by simp⟩
      have hinv0 : BInv N ts [] := ⟨hi.len, fun _ h => by simp at h, hi.lo, hi.hi⟩
      obtain ⟨n1, n2, n3⟩ := level_new (cs := cs) hnb (by omega) htb hn hnew0 hinv0
      exact ih n2 n1.at_ (by omega)
theorem time_bd {ts : List Int} (h : BInv N ts []) (i : Nat) : -1 ≤ ts.getD i (-1) ∧ ts.getD i (-1) ≤ N := by
  by_cases hi : i < ts.length
  · have h1 := h.lo i
    have h2 := h.hi i
    have h3 := burnt_le ts
    rw [h.len] at h3
    simp only [List.getD_eq_getElem?_getD, List.getElem?_eq_getElem hi, Option.getD_some] at h1 h2 ⊢
    omega
  · rw [List.getD_eq_getElem?_getD, List.getElem?_eq_none (by omega)]
    show -1 ≤ (-1 : Int) ∧ (-1 : Int) ≤ (N : Int)
    omega
theorem time_at {ts : List Int} {i : Nat} (h : i < ts.length) : ts[i]? = some (ts.getD i (-1)) := by
  rw [List.getD_eq_getElem?_getD, List.getElem?_eq_getElem h]; rfl
end
/-- What FirstPath gives: the path's cells. -/
def fpList (T : List Int) (W H N : Nat) : List Nat := if bestTo T (N - W) W < 0 then [] else pathOf T (nbs W H) (bestTo T (N - W) W).toNat
theorem fpList_no {T : List Int} {W H N : Nat} (h : bestTo T (N - W) W < 0) : fpList T W H N = [] := if_pos h
theorem fpList_yes {T : List Int} {W H N : Nat} {a : Nat} (h : bestTo T (N - W) W = (a : Int)) : fpList T W H N = pathOf T (nbs W H) a := by
  unfold fpList
  rw [h, if_neg (by omega), Int.toNat_natCast]
end Go.Proofs.Ytknonmfffcjonaa
