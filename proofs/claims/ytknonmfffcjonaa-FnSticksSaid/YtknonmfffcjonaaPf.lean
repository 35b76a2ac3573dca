/- Plain law (no program): a cell that burns later has a neighbour that burns one time earlier. Conditions: none. -/
import Derived.Test.YtknonmfffcjonaaPb
namespace Go.Proofs.Ytknonmfffcjonaa

section
variable {cs : List Bool} {N : Nat} {nb : Nat → List Nat}

/-- Each cell of a time above 0 has a neighbour of the time before. -/
def Down (nb : Nat → List Nat) (ts : List Int) : Prop := ∀ j, 0 < ts.getD j (-1) → ∃ b ∈ nb j, ts.getD b (-1) = ts.getD j (-1) - 1

theorem Down.one {ts : List Int} {l : List Nat} {i b : Nat} {t : Int} (h : Down nb ts) (hi : ts.getD i (-1) = t) (h0 : 0 ≤ t) (hb : i ∈ nb b) : Down nb (visit cs (t + 1) (ts, l) b).1 := by
  by_cases hc : cs.getD b false = true ∧ ts.getD b 0 < 0
  · rw [visit_eq (st := (ts, l)) hc]
    by_cases hbl : b < ts.length
    · have hib : i ≠ b := by
        rintro rfl
        have h1 := (getD_pos hi h0).1
        have h2 := hc.2
        omega
      have hneg : ts.getD b (-1) < 0 := by
        have h2 := hc.2
        simp [List.getD_eq_getElem?_getD, List.getElem?_eq_getElem hbl] at h2 ⊢
        exact h2
      intro j hj
      rw [getD_set _ _ _ _ _ hbl] at hj ⊢
      by_cases e : j = b
      · subst e
        rw [if_pos rfl]
        refine ⟨i, hb, ?_⟩
        rw [getD_set _ _ _ _ _ hbl, if_neg hib, hi]
        omega
      · rw [if_neg e] at hj ⊢
        obtain ⟨b', hb', e'⟩ := h j hj
        refine ⟨b', hb', ?_⟩
        rw [getD_set _ _ _ _ _ hbl, if_neg ?_]
        · exact e'
        · rintro rfl
          omega
    · rw [List.set_eq_of_length_le (by show ts.length ≤ b; omega)]
      exact h
  · rw [visit_ne (st := (ts, l)) hc]
    exact h

theorem Down.many {i : Nat} {t : Int} (h0 : 0 ≤ t) : ∀ {bs : List Nat} {ts : List Int} {l : List Nat}, Down nb ts → ts.getD i (-1) = t → (∀ b ∈ bs, i ∈ nb b) → Down nb (visits cs (t + 1) bs (ts, l)).1 := by
  intro bs
  induction bs with
  | nil => intro ts l h _ _; exact h
  | cons b bs ih =>
    intro ts l h hi hb
    have h1 := h.one (cs := cs) (l := l) hi h0 (hb b (by simp))
    have h2 : (visit cs (t + 1) (ts, l) b).1.getD i (-1) = t := by rw [visit_keep (by rw [hi]; exact h0)]; exact hi
    unfold Go.Proofs.Ytknonmfffcjonaa.visits
    rw [List.foldl_cons]
    exact ih (l := (visit cs (t + 1) (ts, l) b).2) h1 h2 (fun x hx => hb x (by simp [hx]))

theorem Down.level (hsym : ∀ i < N, ∀ b ∈ nb i, i ∈ nb b) {t : Int} (h0 : 0 ≤ t) : ∀ {now : List Nat} {ts : List Int} {m : List Nat}, Down nb ts → (∀ i ∈ now, ts.getD i (-1) = t ∧ i < N) → Down nb (level cs nb now (ts, m)).1 := by
  intro now
  induction now with
  | nil => intro ts m h _; exact h
  | cons i now ih =>
    intro ts m h hn
    have hi := hn i (by simp)
    have e := (getD_pos hi.1 h0).1
    have h1 := h.many (cs := cs) (l := m) (bs := nb i) h0 hi.1 (hsym i hi.2)
    have hs : lstep cs nb (ts, m) i = Go.Proofs.Ytknonmfffcjonaa.visits cs (t + 1) (nb i) (ts, m) := by unfold lstep; rw [e]
    unfold Go.Proofs.Ytknonmfffcjonaa.level
    rw [List.foldl_cons, hs]
    exact ih (m := (Go.Proofs.Ytknonmfffcjonaa.visits cs (t + 1) (nb i) (ts, m)).2) h1 (fun j hj => ⟨(visits_keep (cs := cs) (t := t + 1) (bs := nb i) (st := (ts, m)) (by simp only; rw [(hn j (by simp [hj])).1]; exact h0)).trans (hn j (by simp [hj])).1, (hn j (by simp [hj])).2⟩)

theorem Down.lrun (hnb : ∀ i < N, ∀ b ∈ nb i, b < N) (hsym : ∀ i < N, ∀ b ∈ nb i, i ∈ nb b) : ∀ {F : Nat} {ts : List Int} {now : List Nat} {last : Int}, Down nb ts → BInv N ts now → (∀ i ∈ now, ts.getD i (-1) = last + 1) → -1 ≤ last →
    Down nb (lrun cs nb F ts now last).1 := by
  intro F
  induction F with
  | zero => intro ts now last h _ _ _; exact h
  | succ F ih =>
    intro ts now last h hi hn hl
    unfold Go.Proofs.Ytknonmfffcjonaa.lrun
    split
    · exact h
    · rename_i hne
      obtain ⟨i0, hi0⟩ := List.exists_mem_of_ne_nil _ hne
      have htb : last + 1 ≤ burnt ts := by
        have h1 := hi.hi i0
        rw [(getD_pos (hn i0 hi0) (by omega)).1] at h1
        exact h1
      have hnew0 : New (N := N) (last + 1 + 1) ts [] (burnt ts) := ⟨fun _ h => by simp at h, fun _ h => by simp at h, by simp⟩
      have hinv0 : BInv N ts [] := ⟨hi.len, fun _ h => by simp at h, hi.lo, hi.hi⟩
      obtain ⟨n1, n2, n3⟩ := level_new (cs := cs) hnb (by omega) htb hn hnew0 hinv0
      exact ih (h.level hsym (by omega) (fun i hm => ⟨hn i hm, hi.lt i hm⟩)) n2 n1.at_ (by omega)
end
end Go.Proofs.Ytknonmfffcjonaa
