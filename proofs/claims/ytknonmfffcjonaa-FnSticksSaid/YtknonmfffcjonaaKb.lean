/- Plain law (no program): times at which full cells burn: from the first row, neighbours nearly alike, the last time is the greatest. Conditions: sides of a cell lie among the cells. -/
import Derived.Test.YtknonmfffcjonaaKa
import Derived.Test.YtknonmfffcjonaaPp
import Derived.Test.YtknonmfffcjonaaBs
namespace Go.Proofs.Ytknonmfffcjonaa

section
variable {cs : List Bool} {N : Nat} {nb : Nat → List Nat}
theorem getD_two {l : List Int} {j : Nat} (h : j < l.length) : l.getD j 0 = l.getD j (-1) := by simp [List.getD_eq_getElem?_getD, List.getElem?_eq_getElem h]
/-- Where a level stands: what was set stays, what is new is told. -/
structure LvI (cs : List Bool) (N : Nat) (t0 : List Int) (u : Int) (ts : List Int) (m : List Nat) : Prop where
  len : ts.length = N
  old : ∀ j < N, 0 ≤ t0.getD j (-1) → ts.getD j (-1) = t0.getD j (-1)
  new : ∀ j < N, t0.getD j (-1) < 0 → (ts.getD j (-1) = t0.getD j (-1) ∧ j ∉ m) ∨ (ts.getD j (-1) = u ∧ cs.getD j false = true ∧ j ∈ m)
  mem : ∀ j ∈ m, j < N ∧ t0.getD j (-1) < 0
theorem LvI.visit {t0 : List Int} {u : Int} {ts : List Int} {m : List Nat} (h : LvI cs N t0 u ts m) (hu : 0 ≤ u) {b : Nat} (hb : b < N) :
    LvI cs N t0 u (visit cs u (ts, m) b).1 (visit cs u (ts, m) b).2 ∧ (cs.getD b false = true → 0 ≤ (visit cs u (ts, m) b).1.getD b (-1)) := by
  have hbl : b < ts.length := by rw [h.len]; exact hb
  by_cases hc : cs.getD b false = true ∧ ts.getD b 0 < 0
  · rw [visit_eq (st := (ts, m)) hc]
    rw [getD_two hbl] at hc
    have hb0 : t0.getD b (-1) < 0 := by
      by_cases h0 : 0 ≤ t0.getD b (-1)
      · have := h.old b hb h0
        omega
      · omega
    refine ⟨⟨by simpa using h.len, fun j hj h0 => ?_, fun j hj h0 => ?_, fun j hj => ?_⟩, fun _ => ?_⟩
    · rw [getD_set _ _ _ _ _ hbl]
      have : j ≠ b := by rintro rfl; omega
      rw [if_neg this]
      exact h.old j hj h0
    · rw [getD_set _ _ _ _ _ hbl]
      by_cases e : j = b
      · subst e
        rw [if_pos rfl]
        exact .inr ⟨rfl, hc.1, by simp⟩
      · rw [if_neg e]
        rcases h.new j hj h0 with ⟨q1, q2⟩ | ⟨q1, q2, q3⟩
        · exact .inl ⟨q1, by simp [q2, e]⟩
        · exact .inr ⟨q1, q2, by simp [q3]⟩
    · simp only [List.mem_append, List.mem_singleton] at hj
      rcases hj with hj | rfl
      · exact h.mem j hj
      · exact ⟨hb, hb0⟩
    · rw [getD_set _ _ _ _ _ hbl, if_pos rfl]
      exact hu
  · rw [visit_ne (st := (ts, m)) hc]
    refine ⟨h, fun hf => ?_⟩
    rw [getD_two hbl] at hc
    show 0 ≤ ts.getD b (-1)
    by_cases h0 : 0 ≤ ts.getD b (-1)
    · exact h0
    · exact absurd ⟨hf, by omega⟩ hc
theorem visit_up {u : Int} {st : List Int × List Nat} {b j : Nat} (h : 0 ≤ st.1.getD j (-1)) : 0 ≤ (visit cs u st b).1.getD j (-1) := by rw [visit_keep h]; exact h
theorem visits_up {u : Int} {bs : List Nat} {st : List Int × List Nat} {j : Nat} (h : 0 ≤ st.1.getD j (-1)) : 0 ≤ (visits cs u bs st).1.getD j (-1) := by rw [visits_keep h]; exact h
theorem LvI.visits {t0 : List Int} {u : Int} (hu : 0 ≤ u) : ∀ {bs : List Nat} {ts : List Int} {m : List Nat}, LvI cs N t0 u ts m → (∀ b ∈ bs, b < N) →
    LvI cs N t0 u (Go.Proofs.Ytknonmfffcjonaa.visits cs u bs (ts, m)).1 (Go.Proofs.Ytknonmfffcjonaa.visits cs u bs (ts, m)).2 ∧ ∀ b ∈ bs, cs.getD b false = true → 0 ≤ (Go.Proofs.Ytknonmfffcjonaa.visits cs u bs (ts, m)).1.getD b (-1) := by
  intro bs
  induction bs with
  | nil => intro ts m h _; exact ⟨h, fun b hb => by simp at hb⟩
  | cons b bs ih =>
    intro ts m h hb
    obtain ⟨q1, q2⟩ := h.visit hu (hb b (by simp))
    obtain ⟨r1, r2⟩ := ih (ts := (Go.Proofs.Ytknonmfffcjonaa.visit cs u (ts, m) b).1) (m := (Go.Proofs.Ytknonmfffcjonaa.visit cs u (ts, m) b).2) q1 (fun y hy => hb y (by simp [hy]))
    have e : Go.Proofs.Ytknonmfffcjonaa.visits cs u (b :: bs) (ts, m) = Go.Proofs.Ytknonmfffcjonaa.visits cs u bs (Go.Proofs.Ytknonmfffcjonaa.visit cs u (ts, m) b) := rfl
    rw [e]
    refine ⟨r1, fun y hy hf => ?_⟩
    rw [List.mem_cons] at hy
    rcases hy with rfl | hy
    · exact visits_up (q2 hf)
    · exact r2 y hy hf
theorem level_up {now : List Nat} : ∀ {st : List Int × List Nat} {j : Nat}, 0 ≤ st.1.getD j (-1) → 0 ≤ (level cs nb now st).1.getD j (-1) := by
  unfold level
  induction now with
  | nil => intro st j h; exact h
  | cons i now ih =>
    intro st j h
    rw [List.foldl_cons]
    exact ih (visits_up h)
theorem LvI.level (hnb : ∀ j < N, ∀ b ∈ nb j, b < N) {t0 : List Int} {t : Int} (ht : 0 ≤ t) : ∀ {now : List Nat} {ts : List Int} {m : List Nat}, LvI cs N t0 (t + 1) ts m → (∀ i ∈ now, i < N ∧ t0.getD i (-1) = t) →
    LvI cs N t0 (t + 1) (Go.Proofs.Ytknonmfffcjonaa.level cs nb now (ts, m)).1 (Go.Proofs.Ytknonmfffcjonaa.level cs nb now (ts, m)).2 ∧ ∀ i ∈ now, ∀ b ∈ nb i, cs.getD b false = true → 0 ≤ (Go.Proofs.Ytknonmfffcjonaa.level cs nb now (ts, m)).1.getD b (-1) := by
  intro now
  induction now with
  | nil => intro ts m h _; exact ⟨h, fun i hi => by simp at hi⟩
  | cons i now ih =>
    intro ts m h hn
    obtain ⟨hiN, hit⟩ := hn i (by simp)
    have hts : ts.getD i 0 = t := by
      rw [getD_two (by rw [h.len]; exact hiN), h.old i hiN (by omega), hit]
    obtain ⟨q1, q2⟩ := h.visits (u := t + 1) (by omega) (hnb i hiN)
    have e : Go.Proofs.Ytknonmfffcjonaa.level cs nb (i :: now) (ts, m) = Go.Proofs.Ytknonmfffcjonaa.level cs nb now (Go.Proofs.Ytknonmfffcjonaa.visits cs (t + 1) (nb i) (ts, m)) := by
      unfold Go.Proofs.Ytknonmfffcjonaa.level
      rw [List.foldl_cons]
      unfold lstep
      rw [hts]
    rw [e]
    obtain ⟨r1, r2⟩ := ih (ts := (Go.Proofs.Ytknonmfffcjonaa.visits cs (t + 1) (nb i) (ts, m)).1) (m := (Go.Proofs.Ytknonmfffcjonaa.visits cs (t + 1) (nb i) (ts, m)).2) q1 (fun y hy => hn y (by simp [hy]))
    refine ⟨r1, fun y hy b hb hf => ?_⟩
    rw [List.mem_cons] at hy
    rcases hy with rfl | hy
    · exact level_up (q2 b hb hf)
    · exact r2 y hy b hb hf
/-- Where the burning stands. -/
structure TSt (cs : List Bool) (N : Nat) (nb : Nat → List Nat) (W : Nat) (ts : List Int) (now : List Nat) (last : Int) : Prop where
  len : ts.length = N
  bd : ∀ j < N, -1 ≤ ts.getD j (-1) ∧ ts.getD j (-1) ≤ last + 1
  now_ : ∀ j < N, ts.getD j (-1) = last + 1 ↔ j ∈ now
  lt : ∀ j ∈ now, j < N
  full : ∀ j < N, 0 ≤ ts.getD j (-1) → cs.getD j false = true
  top : ∀ j < N, ts.getD j (-1) = 0 ↔ (j < W ∧ cs.getD j false = true)
  side : ∀ j < N, 0 ≤ ts.getD j (-1) → ts.getD j (-1) ≤ last → ∀ b ∈ nb j, cs.getD b false = true → 0 ≤ ts.getD b (-1) ∧ ts.getD b (-1) ≤ ts.getD j (-1) + 1
  mem : 0 ≤ last → ∃ j < N, ts.getD j (-1) = last
  lo : -1 ≤ last
theorem TSt.step {W : Nat} (hnb : ∀ j < N, ∀ b ∈ nb j, b < N) {ts : List Int} {now : List Nat} {last : Int} (h : TSt cs N nb W ts now last) (hne : now ≠ []) :
    TSt cs N nb W (level cs nb now (ts, [])).1 (level cs nb now (ts, [])).2 (last + 1) := by
  have hl := h.lo
  have h0 : LvI cs N ts (last + 1 + 1) ts [] := ⟨h.len, fun _ _ _ => rfl, fun j _ _ => .inl ⟨rfl, by simp⟩, fun j hj => by simp at hj⟩
  obtain ⟨q, q2⟩ := h0.level (nb := nb) hnb (by omega) (fun i hi => ⟨h.lt i hi, (h.now_ i (h.lt i hi)).2 hi⟩)
  generalize level cs nb now (ts, []) = st at q q2
  obtain ⟨t2, m⟩ := st
  have old : ∀ j < N, 0 ≤ ts.getD j (-1) → t2.getD j (-1) = ts.getD j (-1) := q.old
  have new : ∀ j < N, ts.getD j (-1) < 0 → (t2.getD j (-1) = ts.getD j (-1) ∧ j ∉ m) ∨ (t2.getD j (-1) = last + 1 + 1 ∧ cs.getD j false = true ∧ j ∈ m) := q.new
  refine ⟨q.len, fun j hj => ?_, fun j hj => ?_, fun j hj => (q.mem j hj).1, fun j hj hp => ?_, fun j hj => ?_, fun j hj hp hle b hb hcb => ?_, fun _ => ?_, by omega⟩
  · have := h.bd j hj
    show -1 ≤ t2.getD j (-1) ∧ t2.getD j (-1) ≤ last + 1 + 1
    by_cases hp : 0 ≤ ts.getD j (-1)
    · rw [old j hj hp]
      omega
    · rcases new j hj (by omega) with ⟨e, _⟩ | ⟨e, _⟩ <;> rw [e] <;> omega
  · have := h.bd j hj
    show t2.getD j (-1) = last + 1 + 1 ↔ j ∈ m
    by_cases hp : 0 ≤ ts.getD j (-1)
    · rw [old j hj hp]
      refine ⟨fun e => by omega, fun e => ?_⟩
      have := (q.mem j e).2
      omega
    · rcases new j hj (by omega) with ⟨e, e2⟩ | ⟨e, _, e2⟩
      · rw [e]
        exact ⟨fun e => by omega, fun e => absurd e e2⟩
      · exact ⟨fun _ => e2, fun _ => e⟩
  · by_cases hp' : 0 ≤ ts.getD j (-1)
    · exact h.full j hj hp'
    · rcases new j hj (by omega) with ⟨e, _⟩ | ⟨_, e, _⟩
      · have hp : 0 ≤ t2.getD j (-1) := hp
        rw [e] at hp
        exact absurd hp hp'
      · exact e
  · show t2.getD j (-1) = 0 ↔ _
    rw [← h.top j hj]
    by_cases hp : 0 ≤ ts.getD j (-1)
    · rw [old j hj hp]
    · rcases new j hj (by omega) with ⟨e, _⟩ | ⟨e, _, _⟩
      · rw [e]
      · rw [e]
        exact ⟨fun e => by omega, fun e => by omega⟩
  · have hbN := hnb j hj b hb
    have hp : 0 ≤ t2.getD j (-1) := hp
    have hle : t2.getD j (-1) ≤ last + 1 := hle
    show 0 ≤ t2.getD b (-1) ∧ t2.getD b (-1) ≤ t2.getD j (-1) + 1
    have hj0 : 0 ≤ ts.getD j (-1) := by
      by_cases hp' : 0 ≤ ts.getD j (-1)
      · exact hp'
      · rcases new j hj (by omega) with ⟨e, _⟩ | ⟨e, _, _⟩ <;> omega
    rw [old j hj hj0] at hle ⊢
    by_cases hjl : ts.getD j (-1) ≤ last
    · obtain ⟨b1, b2⟩ := h.side j hj hj0 hjl b hb hcb
      rw [old b hbN b1]
      exact ⟨b1, b2⟩
    · have hjn : j ∈ now := (h.now_ j hj).1 (by omega)
      have hb0 : 0 ≤ t2.getD b (-1) := q2 j hjn b hb hcb
      refine ⟨hb0, ?_⟩
      have := h.bd b hbN
      by_cases hp' : 0 ≤ ts.getD b (-1)
      · rw [old b hbN hp']
        omega
      · rcases new b hbN (by omega) with ⟨e, _⟩ | ⟨e, _, _⟩ <;> omega
  · obtain ⟨i, hi⟩ := List.exists_mem_of_ne_nil _ hne
    have hiN := h.lt i hi
    have := (h.now_ i hiN).2 hi
    exact ⟨i, hiN, by show t2.getD i (-1) = last + 1; rw [old i hiN (by omega)]; exact this⟩
/-- The level by level run ends where no cell is open. -/
theorem lrun_end {W : Nat} (hnb : ∀ j < N, ∀ b ∈ nb j, b < N) : ∀ {F : Nat} {ts : List Int} {now : List Nat} {last : Int} {p : Nat}, TSt cs N nb W ts now last → BInv N ts now → burnt ts = p + now.length → N + 1 ≤ F + p →
    TSt cs N nb W (lrun cs nb F ts now last).1 [] (lrun cs nb F ts now last).2 := by
  intro F
  induction F with
  | zero =>
    intro ts now last p h hi hb hp
    have := burnt_le ts
    have := h.len
    omega
  | succ F ih =>
    intro ts now last p h hi hb hp
    unfold lrun
    split
    · rename_i hn
      subst hn
      exact h
    · rename_i hne
      have hl := h.lo
      have hnow : ∀ i ∈ now, ts.getD i (-1) = last + 1 := fun i hi => (h.now_ i (h.lt i hi)).2 hi
      obtain ⟨i0, hi0⟩ := List.exists_mem_of_ne_nil _ hne
      have htb : last + 1 ≤ burnt ts := by
        have h1 := hi.hi i0
        rw [(getD_pos (hnow i0 hi0) (by omega)).1] at h1
        exact h1
      have hnew0 : New (N := N) (last + 1 + 1) ts [] (burnt ts) := ⟨fun _ h => by simp at h, fun _ h => by simp at h, by simp⟩
      have hinv0 : BInv N ts [] := ⟨hi.len, fun _ h => by simp at h, hi.lo, hi.hi⟩
      obtain ⟨n1, n2, _⟩ := level_new (cs := cs) hnb (by omega) htb hnow hnew0 hinv0
      have hlen : 1 ≤ now.length := by
        cases now with
        | nil => exact absurd rfl hne
        | cons _ _ => simp
      exact ih (p := burnt ts) (h.step hnb hne) n2 n1.num (by omega)
theorem ts0_at {W N i : Nat} (hi : i < N) : (ts0 cs W N).getD i (-1) = if burnsAt cs W i then 0 else -1 := by
  have := ts0_get cs W N i
  rw [if_pos hi] at this
  rw [← this, getD_two (by simp [ts0, hi])]
/-- What times are. -/
theorem times_ok {W : Nat} (hnb : ∀ j < N, ∀ b ∈ nb j, b < N) (hl : cs.length = N) : TSt cs N nb W (lrun cs nb (N + 1) (ts0 cs W N) (l0 cs W N) (-1)).1 [] (lrun cs nb (N + 1) (ts0 cs W N) (l0 cs W N) (-1)).2 := by
  refine lrun_end (p := 0) hnb ⟨by simp [ts0], fun j hj => ?_, fun j hj => ?_, fun j hj => ?_, fun j hj h => ?_, fun j hj => ?_, fun j hj h h' => ?_, fun h => by omega, by omega⟩ (binv0 hl) (by rw [burnt0]; simp) (by omega)
  · rw [ts0_at hj]
    split <;> omega
  · rw [ts0_at hj]
    unfold l0
    simp only [List.mem_filter, List.mem_range, hj, true_and]
    split
    · rename_i h
      simp [h]
    · rename_i h
      simp [h]
  · unfold l0 at hj
    simp only [List.mem_filter, List.mem_range] at hj
    exact hj.1
  · rw [ts0_at hj] at h
    split at h
    · rename_i hb
      unfold burnsAt at hb
      simp only [Bool.and_eq_true] at hb
      exact hb.2
    · omega
  · rw [ts0_at hj]
    unfold burnsAt
    by_cases h : j < W ∧ cs.getD j false = true
    · simp only [h.1, h.2]
      simp
    · constructor
      · intro e
        split at e
        · rename_i hb
          simp only [Bool.and_eq_true, decide_eq_true_eq] at hb
          exact hb
        · omega
      · intro e
        exact absurd e h
  · exact absurd h (by omega)
end
end Go.Proofs.Ytknonmfffcjonaa
