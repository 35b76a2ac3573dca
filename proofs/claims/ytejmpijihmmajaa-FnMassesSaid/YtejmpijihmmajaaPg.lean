/- Plain law (no program): a search from a cell marks the same cells, in whatever order it goes. Conditions: none. -/
import Derived.Test.YtejmpijihmmajaaPb
namespace Go.Proofs.Ytejmpijihmmajaa

section
variable (cs : List Bool) (N : Nat) (nb : Nat → List Nat)

/-- What a search from cell i comes to. -/
inductive Reach (t0 : List Int) (i : Nat) : Nat → Prop
  | here : Reach t0 i i
  | next {a b : Nat} : Reach t0 i a → b ∈ nb a → cs.getD b false = true → t0.getD b 0 < 0 → Reach t0 i b

/-- What holds of a search with mark n from cell i: D is done, O is open. -/
structure Srch (t0 : List Int) (n : Int) (i : Nat) (ts : List Int) (D O : List Nat) : Prop where
  len : ts.length = N
  len0 : t0.length = N
  pos : 0 ≤ n
  fresh : ∀ j < N, t0.getD j 0 ≠ n
  mark : ∀ j < N, ts.getD j 0 = n ↔ j ∈ D ∨ j ∈ O
  lt : ∀ j, j ∈ D ∨ j ∈ O → j < N
  keep : ∀ j < N, ts.getD j 0 ≠ n → ts.getD j 0 = t0.getD j 0
  reach : ∀ j, j ∈ D ∨ j ∈ O → Reach cs nb t0 i j
  full : ∀ d ∈ D, ∀ b ∈ nb d, cs.getD b false = true → 0 ≤ ts.getD b 0
  num : burnt ts = burnt t0 + (D.length + O.length)
  root : i ∈ D ∨ i ∈ O

variable {cs N nb}

theorem Srch.swap {t0 ts : List Int} {n : Int} {i : Nat} {D O D' O' : List Nat} (h : Srch cs N nb t0 n i ts D O) (hD : ∀ x, x ∈ D' ↔ x ∈ D) (hO : ∀ x, x ∈ O' ↔ x ∈ O) (hl : D'.length + O'.length = D.length + O.length) :
    Srch cs N nb t0 n i ts D' O' := by
  have e : ∀ j, (j ∈ D' ∨ j ∈ O') ↔ (j ∈ D ∨ j ∈ O) := fun j => by rw [hD, hO]
  exact ⟨h.len, h.len0, h.pos, h.fresh, fun j hj => by rw [e]; exact h.mark j hj, fun j hj => h.lt j ((e j).1 hj), h.keep, fun j hj => h.reach j ((e j).1 hj), fun d hd => h.full d ((hD d).1 hd), by rw [hl]; exact h.num, (e i).2 h.root⟩

/-- A search begins. -/
theorem Srch.start {t0 : List Int} {n : Int} {i : Nat} (hl : t0.length = N) (hn : 0 ≤ n) (hi : i < N) (hf : ∀ j < N, t0.getD j 0 ≠ n) (h0 : t0.getD i 0 < 0) :
    Srch cs N nb t0 n i (t0.set i n) [] [i] := by
  have hil : i < t0.length := by omega
  refine ⟨by simpa using hl, hl, hn, hf, fun j hj => ?_, fun j hj => ?_, fun j hj h => ?_, fun j hj => ?_, fun d hd => by simp at hd, ?_, by simp⟩
  · rw [getD_set _ _ _ _ _ hil]
    by_cases h : j = i
    · simp [h]
    · rw [if_neg h]; exact ⟨fun e => absurd e (hf j hj), fun e => by simp at e; exact absurd e h⟩
  · simp at hj; omega
  · rw [getD_set _ _ _ _ _ hil] at h ⊢
    by_cases e : j = i
    · simp [e] at h
    · rw [if_neg e]
  · simp at hj; subst hj; exact .here
  · rw [burnt_set t0 i n hil h0 hn]; simp

/-- One visit in a search: x is being done. -/
theorem Srch.one {t0 ts : List Int} {n : Int} {i x b : Nat} {D O : List Nat} (h : Srch cs N nb t0 n i ts D O) (hx : x ∈ D ∨ x ∈ O) (hb : b ∈ nb x) (hbN : b < N) :
    Srch cs N nb t0 n i (visit cs n (ts, O) b).1 D (visit cs n (ts, O) b).2 ∧ (cs.getD b false = true → 0 ≤ (visit cs n (ts, O) b).1.getD b 0) ∧ (∀ j, 0 ≤ ts.getD j 0 → 0 ≤ (visit cs n (ts, O) b).1.getD j 0) := by
  have hbl : b < ts.length := by rw [h.len]; exact hbN
  by_cases hc : cs.getD b false = true ∧ ts.getD b 0 < 0
  · rw [visit_eq (st := (ts, O)) hc]
    have hne : ts.getD b 0 ≠ n := by have := h.pos; have := hc.2; omega
    have h0 : t0.getD b 0 < 0 := by rw [← h.keep b hbN hne]; exact hc.2
    refine ⟨⟨by simpa using h.len, h.len0, h.pos, h.fresh, fun j hj => ?_, fun j hj => ?_, fun j hj hjn => ?_, fun j hj => ?_, fun d hd b' hb' hf => ?_, ?_, ?_⟩, fun _ => ?_, fun j hj => ?_⟩
    · rw [getD_set _ _ _ _ _ hbl]
      by_cases e : j = b
      · simp [e]
      · rw [if_neg e, h.mark j hj]; simp [e]
    · simp at hj
      rcases hj with hj | hj | rfl
      · exact h.lt j (.inl hj)
      · exact h.lt j (.inr hj)
      · exact hbN
    · rw [getD_set _ _ _ _ _ hbl] at hjn ⊢
      by_cases e : j = b
      · simp [e] at hjn
      · rw [if_neg e] at hjn ⊢; exact h.keep j hj hjn
    · simp at hj
      rcases hj with hj | hj | rfl
      · exact h.reach j (.inl hj)
      · exact h.reach j (.inr hj)
      · exact .next (h.reach x hx) hb hc.1 h0
    · rw [getD_set _ _ _ _ _ hbl]
      split
      · exact h.pos
      · exact h.full d hd b' hb' hf
    · rw [burnt_set ts b n hbl hc.2 h.pos, h.num]; simp; omega
    · simp; rcases h.root with r | r <;> simp [r]
    · rw [getD_set _ _ _ _ _ hbl, if_pos rfl]; exact h.pos
    · rw [getD_set _ _ _ _ _ hbl]
      split
      · exact h.pos
      · exact hj
  · rw [visit_ne (st := (ts, O)) hc]
    refine ⟨h, fun hf => ?_, fun j hj => hj⟩
    by_cases hlt : ts.getD b 0 < 0
    · exact absurd ⟨hf, hlt⟩ hc
    · show 0 ≤ ts.getD b 0
      omega

theorem Srch.many {t0 : List Int} {n : Int} {i x : Nat} {D : List Nat} : ∀ {bs : List Nat} {ts : List Int} {O : List Nat}, Srch cs N nb t0 n i ts D O → x ∈ D ∨ x ∈ O → (∀ b ∈ bs, b ∈ nb x ∧ b < N) →
    Srch cs N nb t0 n i (Go.Proofs.Ytejmpijihmmajaa.visits cs n bs (ts, O)).1 D (Go.Proofs.Ytejmpijihmmajaa.visits cs n bs (ts, O)).2 ∧ (∀ b ∈ bs, cs.getD b false = true → 0 ≤ (visits cs n bs (ts, O)).1.getD b 0) ∧ (∀ j, 0 ≤ ts.getD j 0 → 0 ≤ (visits cs n bs (ts, O)).1.getD j 0) := by
  intro bs
  induction bs with
  | nil => intro ts O h _ _; exact ⟨h, fun b hb => by simp at hb, fun j hj => hj⟩
  | cons b bs ih =>
    intro ts O h hx hb
    obtain ⟨h1, h2, h3⟩ := h.one hx (hb b (by simp)).1 (hb b (by simp)).2
    have hx' : x ∈ D ∨ x ∈ (Go.Proofs.Ytejmpijihmmajaa.visit cs n (ts, O) b).2 := by
      rcases hx with hx | hx
      · exact .inl hx
      · refine .inr ?_
        by_cases hc : cs.getD b false = true ∧ ts.getD b 0 < 0
        · rw [visit_eq (st := (ts, O)) hc]; simp [hx]
        · rw [visit_ne (st := (ts, O)) hc]; exact hx
    obtain ⟨q1, q2, q3⟩ := ih (ts := (Go.Proofs.Ytejmpijihmmajaa.visit cs n (ts, O) b).1) (O := (Go.Proofs.Ytejmpijihmmajaa.visit cs n (ts, O) b).2) h1 hx' (fun y hy => hb y (by simp [hy]))
    unfold Go.Proofs.Ytejmpijihmmajaa.visits at q1 q2 q3 ⊢
    rw [List.foldl_cons]
    refine ⟨q1, fun y hy hf => ?_, fun j hj => q3 j (h3 j hj)⟩
    simp at hy
    rcases hy with rfl | hy
    · exact q3 _ (h2 hf)
    · exact q2 y hy hf

/-- One cell is done. -/
theorem Srch.done {t0 ts : List Int} {n : Int} {i x : Nat} {D O : List Nat} (h : Srch cs N nb t0 n i ts D (x :: O)) (hnb : ∀ b ∈ nb x, b < N) :
    Srch cs N nb t0 n i (visits cs n (nb x) (ts, O)).1 (D ++ [x]) (visits cs n (nb x) (ts, O)).2 := by
  obtain ⟨h1, h2, -⟩ := h.many (bs := nb x) (x := x) (.inr (by simp)) (fun b hb => ⟨hb, hnb b hb⟩)
  have e : Go.Proofs.Ytejmpijihmmajaa.visits cs n (nb x) (ts, x :: O) = ((Go.Proofs.Ytejmpijihmmajaa.visits cs n (nb x) (ts, O)).1, x :: (Go.Proofs.Ytejmpijihmmajaa.visits cs n (nb x) (ts, O)).2) := by
    have := visits_app (cs := cs) (t := n) (bs := nb x) (ts := ts) (l := [x]) (m := O)
    simpa using this
  rw [e] at h1 h2
  generalize Go.Proofs.Ytejmpijihmmajaa.visits cs n (nb x) (ts, O) = st at *
  obtain ⟨ts', O'⟩ := st
  have em : ∀ j, (j ∈ D ++ [x] ∨ j ∈ O') ↔ (j ∈ D ∨ j ∈ x :: O') := fun j => by simp [or_assoc]
  refine ⟨h1.len, h1.len0, h1.pos, h1.fresh, fun j hj => by rw [em]; exact h1.mark j hj, fun j hj => h1.lt j ((em j).1 hj), h1.keep, fun j hj => h1.reach j ((em j).1 hj), fun d hd b hb hf => ?_, ?_, (em i).2 h1.root⟩
  · simp at hd
    rcases hd with hd | rfl
    · exact h1.full d hd b hb hf
    · exact h2 b hb hf
  · have := h1.num
    simp at this ⊢
    omega

/-- One new cell, while x is being done. -/
theorem Srch.put {t0 ts : List Int} {n : Int} {i x b : Nat} {D O : List Nat} (h : Srch cs N nb t0 n i ts D (x :: O)) (hb : b ∈ nb x) (hbN : b < N) (hf : cs.getD b false = true) (h0 : ts.getD b 0 < 0) :
    Srch cs N nb t0 n i (ts.set b n) D (x :: (O ++ [b])) := by
  have h1 := (h.one (.inr (by simp)) hb hbN).1
  rw [visit_eq (st := (ts, x :: O)) ⟨hf, h0⟩] at h1
  simpa using h1

theorem Srch.le {t0 ts : List Int} {n : Int} {i : Nat} {D O : List Nat} (h : Srch cs N nb t0 n i ts D O) : D.length + O.length ≤ N := by
  have := burnt_le ts
  have := h.num
  have := h.len
  omega

/-- A search marks what it comes to, and as many cells as it says. -/
theorem Srch.unique {t0 ts ts' : List Int} {n : Int} {i : Nat} {D D' : List Nat} (h : Srch cs N nb t0 n i ts D []) (h' : Srch cs N nb t0 n i ts' D' []) (hnb : ∀ j < N, ∀ b ∈ nb j, b < N) : ts = ts' ∧ D.length = D'.length := by
  have key : ∀ {u : List Int} {E : List Nat}, Srch cs N nb t0 n i u E [] → ∀ j < N, u.getD j 0 = n ↔ Reach cs nb t0 i j := by
    intro u E q j hj
    constructor
    · intro e
      exact q.reach j ((q.mark j hj).1 e)
    · intro r
      have all : ∀ j, Reach cs nb t0 i j → j < N ∧ u.getD j 0 = n := by
        intro j r
        induction r with
        | here => exact ⟨q.lt i q.root, (q.mark i (q.lt i q.root)).2 q.root⟩
        | @next a b r1 hb hf h0 ih =>
          have hbN := hnb a ih.1 b hb
          have ha := (q.mark a ih.1).1 ih.2
          simp at ha
          have h1 := q.full a ha b hb hf
          refine ⟨hbN, ?_⟩
          by_cases e : u.getD b 0 = n
          · exact e
          · rw [q.keep b hbN e] at h1
            omega
      exact (all j r).2
  have e : ts = ts' := by
    apply List.ext_getElem (by rw [h.len, h'.len])
    intro j h1 h2
    have hj : j < N := by rw [← h.len]; exact h1
    have e1 : ts.getD j 0 = ts[j] := by simp [List.getD_eq_getElem?_getD, List.getElem?_eq_getElem h1]
    have e2 : ts'.getD j 0 = ts'[j] := by simp [List.getD_eq_getElem?_getD, List.getElem?_eq_getElem h2]
    rw [← e1, ← e2]
    by_cases r : Reach cs nb t0 i j
    · rw [(key h j hj).2 r, (key h' j hj).2 r]
    · rw [h.keep j hj (fun e => r ((key h j hj).1 e)), h'.keep j hj (fun e => r ((key h' j hj).1 e))]
  refine ⟨e, ?_⟩
  have a := h.num
  have b := h'.num
  rw [e] at a
  simp at a b
  omega

/-- The groups that are found among the first i cells: the numbers, and the sizes. -/
inductive Grp (cs : List Bool) (N : Nat) (nb : Nat → List Nat) : Nat → List Int → List Int → Prop
  | zero : Grp cs N nb 0 (List.replicate N (-1)) []
  | skip {i : Nat} {ts sz : List Int} : Grp cs N nb i ts sz → ¬ (cs.getD i false = true ∧ ts.getD i 0 < 0) → Grp cs N nb (i + 1) ts sz
  | more {i : Nat} {ts sz ts' : List Int} {D : List Nat} : Grp cs N nb i ts sz → (cs.getD i false = true ∧ ts.getD i 0 < 0) → Srch cs N nb ts sz.length i ts' D [] → Grp cs N nb (i + 1) ts' (sz ++ [(D.length : Int)])

theorem Grp.unique (hnb : ∀ j < N, ∀ b ∈ nb j, b < N) : ∀ {i : Nat} {ts sz ts' sz' : List Int}, Grp cs N nb i ts sz → Grp cs N nb i ts' sz' → ts = ts' ∧ sz = sz' := by
  intro i
  induction i with
  | zero => intro ts sz ts' sz' h h'; cases h; cases h'; exact ⟨rfl, rfl⟩
  | succ i ih =>
    intro ts sz ts' sz' h h'
    cases h with
    | skip a c =>
      cases h' with
      | skip a' c' => exact ih a a'
      | more a' c' s' => obtain ⟨rfl, rfl⟩ := ih a a'; exact absurd c' c
    | more a c s =>
      cases h' with
      | skip a' c' => obtain ⟨rfl, rfl⟩ := ih a a'; exact absurd c c'
      | more a' c' s' =>
        obtain ⟨rfl, rfl⟩ := ih a a'
        obtain ⟨e1, e2⟩ := s.unique s' hnb
        exact ⟨e1, by rw [e2]⟩

/-- What holds of numbers of groups: as many as cells, all at least -1 and less than how many groups there are; no more groups than cells seen. -/
structure GInv (N i : Nat) (ts sz : List Int) : Prop where
  len : ts.length = N
  lo : ∀ j, -1 ≤ ts.getD j 0
  hi : ∀ j < N, ts.getD j 0 < sz.length
  num : sz.length ≤ i
  le : ∀ x ∈ sz, 0 ≤ x ∧ x ≤ N

theorem GInv.zero : GInv N 0 (List.replicate N (-1)) [] := by
  refine ⟨by simp, fun j => ?_, fun j hj => ?_, by simp, fun x hx => by simp at hx⟩
  · by_cases h : j < N
    · simp [List.getD_eq_getElem?_getD, List.getElem?_replicate, h]
    · simp [List.getD_eq_getElem?_getD, List.getElem?_replicate, h]
  · simp [List.getD_eq_getElem?_getD, List.getElem?_replicate, hj]

theorem GInv.fresh {i : Nat} {ts sz : List Int} (h : GInv N i ts sz) : ∀ j < N, ts.getD j 0 ≠ (sz.length : Int) := fun j hj => by have := h.hi j hj; omega

theorem GInv.more {i k : Nat} {t0 sz ts : List Int} {D : List Nat} (h : GInv N i t0 sz) (s : Srch cs N nb t0 sz.length k ts D []) : GInv N (i + 1) ts (sz ++ [(D.length : Int)]) := by
  refine ⟨s.len, fun j => ?_, fun j hj => ?_, by have := h.num; simp; omega, fun x hx => ?_⟩
  · by_cases hj : j < N
    · by_cases e : ts.getD j 0 = (sz.length : Int)
      · rw [e]; omega
      · rw [s.keep j hj e]; exact h.lo j
    · have := s.len
      simp [List.getD_eq_getElem?_getD, List.getElem?_eq_none (show ts.length ≤ j by omega)]
  · by_cases e : ts.getD j 0 = (sz.length : Int)
    · rw [e]; simp only [List.length_append, List.length_singleton]; omega
    · rw [s.keep j hj e]
      have := h.hi j hj
      simp only [List.length_append, List.length_singleton]; omega
  · simp at hx
    rcases hx with hx | rfl
    · exact h.le x hx
    · have := s.le
      simp at this
      omega

theorem Grp.inv : ∀ {i : Nat} {ts sz : List Int}, Grp cs N nb i ts sz → GInv N i ts sz := by
  intro i
  induction i with
  | zero => intro ts sz h; cases h; exact GInv.zero
  | succ i ih =>
    intro ts sz h
    cases h with
    | skip a c => have q := ih a; exact ⟨q.len, q.lo, q.hi, by have := q.num; omega, q.le⟩
    | more a c s => exact (ih a).more s
end
end Go.Proofs.Ytejmpijihmmajaa
