/- Plain law (no program): cells burn level by level just as a queue burns them. Conditions: none. -/
import Derived.Test.YtejmpijihmmajaaMem
namespace Go.Proofs.Ytejmpijihmmajaa

section
variable (cs : List Bool) (N : Nat) (nb : Nat → List Nat)

/-- A cell that is full and does not burn yet gets the time t, and goes to the end of the list. -/
def visit (t : Int) (st : List Int × List Nat) (b : Nat) : List Int × List Nat :=
  if cs.getD b false = true ∧ st.1.getD b 0 < 0 then (st.1.set b t, st.2 ++ [b]) else st
def visits (t : Int) (bs : List Nat) (st : List Int × List Nat) : List Int × List Nat := bs.foldl (visit cs t) st

/-- One cell of the queue. -/
def qstep (k : Nat) (st : List Int × List Nat) : List Int × List Nat :=
  visits cs (st.1.getD (st.2.getD k 0) 0 + 1) (nb (st.2.getD k 0)) st
/-- The queue, from place k on: the times, and the last one. -/
def qrun : Nat → Nat → List Int × List Nat → Int → List Int × Int
  | 0, _, st, last => (st.1, last)
  | f + 1, k, st, last => if k < st.2.length then qrun f (k + 1) (qstep cs nb k st) (st.1.getD (st.2.getD k 0) 0) else (st.1, last)

/-- One cell of a level: what is new goes to the next level. -/
def lstep (st : List Int × List Nat) (i : Nat) : List Int × List Nat := visits cs (st.1.getD i 0 + 1) (nb i) st
def level (now : List Nat) (st : List Int × List Nat) : List Int × List Nat := now.foldl (lstep cs nb) st
/-- Level by level. -/
def lrun : Nat → List Int → List Nat → Int → List Int × Int
  | 0, ts, _, last => (ts, last)
  | f + 1, ts, now, last => if now = [] then (ts, last) else lrun f (level cs nb now (ts, [])).1 (level cs nb now (ts, [])).2 (last + 1)

/-- How many cells burn. -/
def burnt (ts : List Int) : Nat := ts.countP (fun x => decide (0 ≤ x))

/-- What holds of times and a list of burning cells. -/
structure BInv (ts : List Int) (l : List Nat) : Prop where
  len : ts.length = N
  lt : ∀ x ∈ l, x < N
  lo : ∀ i, -1 ≤ ts.getD i 0
  hi : ∀ i, ts.getD i 0 ≤ burnt ts

variable {cs N nb}

theorem getD_set (ts : List Int) (b i : Nat) (t d : Int) (hb : b < ts.length) : (ts.set b t).getD i d = if i = b then t else ts.getD i d := by
  simp only [List.getD_eq_getElem?_getD, List.getElem?_set]
  by_cases h : b = i
  · subst h; simp [hb]
  · rw [if_neg h, if_neg (Ne.symm h)]

theorem burnt_set (ts : List Int) (b : Nat) (t : Int) (hb : b < ts.length) (hn : ts.getD b 0 < 0) (ht : 0 ≤ t) : burnt (ts.set b t) = burnt ts + 1 := by
  unfold burnt
  rw [List.countP_set hb]
  have e : ts[b] < 0 := by simpa [List.getD_eq_getElem?_getD, List.getElem?_eq_getElem hb] using hn
  simp [ht, show ¬ 0 ≤ ts[b] from by omega]
theorem burnt_le (ts : List Int) : burnt ts ≤ ts.length := List.countP_le_length

theorem visit_eq {t : Int} {st : List Int × List Nat} {b : Nat} (h : cs.getD b false = true ∧ st.1.getD b 0 < 0) : visit cs t st b = (st.1.set b t, st.2 ++ [b]) := if_pos h
theorem visit_ne {t : Int} {st : List Int × List Nat} {b : Nat} (h : ¬ (cs.getD b false = true ∧ st.1.getD b 0 < 0)) : visit cs t st b = st := if_neg h

theorem BInv.visit {ts : List Int} {l : List Nat} (h : BInv N ts l) {t : Int} {b : Nat} (hb : b < N) (h0 : 0 ≤ t) (h1 : t ≤ burnt ts + 1) : BInv N (visit cs t (ts, l) b).1 (visit cs t (ts, l) b).2 := by
  by_cases hc : cs.getD b false = true ∧ ts.getD b 0 < 0
  · rw [visit_eq (st := (ts, l)) hc]
    have hbl : b < ts.length := by rw [h.len]; exact hb
    have e := burnt_set ts b t hbl hc.2 h0
    refine ⟨by simpa using h.len, fun x hx => ?_, fun i => ?_, fun i => ?_⟩
    · simp at hx
      rcases hx with hx | rfl
      · exact h.lt x hx
      · exact hb
    · rw [getD_set _ _ _ _ _ hbl]
      have := h.lo i
      split <;> omega
    · rw [getD_set _ _ _ _ _ hbl, e]
      have := h.hi i
      split <;> omega
  · rw [visit_ne (st := (ts, l)) hc]
    exact h

/-- What burns keeps its time; no cell stops burning. -/
theorem visit_keep {t : Int} {st : List Int × List Nat} {b i : Nat} (h0 : 0 ≤ st.1.getD i (-1)) : (visit cs t st b).1.getD i (-1) = st.1.getD i (-1) := by
  by_cases hc : cs.getD b false = true ∧ st.1.getD b 0 < 0
  · rw [visit_eq hc]
    by_cases hbl : b < st.1.length
    · rw [getD_set _ _ _ _ _ hbl]
      split
      · rename_i e
        subst e
        have h2 := hc.2
        simp [List.getD_eq_getElem?_getD, List.getElem?_eq_getElem hbl] at h0 h2
        omega
      · rfl
    · rw [List.set_eq_of_length_le (by omega)]
  · rw [visit_ne hc]

theorem visit_app {t : Int} {ts : List Int} {l m : List Nat} {b : Nat} : visit cs t (ts, l ++ m) b = ((visit cs t (ts, m) b).1, l ++ (visit cs t (ts, m) b).2) := by
  by_cases hc : cs.getD b false = true ∧ ts.getD b 0 < 0
  · rw [visit_eq (st := (ts, l ++ m)) hc, visit_eq (st := (ts, m)) hc]; simp
  · rw [visit_ne (st := (ts, l ++ m)) hc, visit_ne (st := (ts, m)) hc]
theorem visits_app {t : Int} {bs : List Nat} : ∀ {ts : List Int} {l m : List Nat}, visits cs t bs (ts, l ++ m) = ((visits cs t bs (ts, m)).1, l ++ (visits cs t bs (ts, m)).2) := by
  unfold visits
  induction bs with
  | nil => intro ts l m; rfl
  | cons b bs ih =>
    intro ts l m
    rw [List.foldl_cons, List.foldl_cons, visit_app]
    exact ih
theorem visits_keep {t : Int} {bs : List Nat} {i : Nat} : ∀ {st : List Int × List Nat}, 0 ≤ st.1.getD i (-1) → (visits cs t bs st).1.getD i (-1) = st.1.getD i (-1) := by
  unfold visits
  induction bs with
  | nil => intro st _; rfl
  | cons b bs ih =>
    intro st h
    rw [List.foldl_cons, ih (by rw [visit_keep h]; exact h), visit_keep h]

theorem visits_drop {u : Int} {bs : List Nat} {i : Nat} (h : i < bs.length) (st : List Int × List Nat) : visits cs u (bs.drop i) st = visits cs u (bs.drop (i + 1)) (visit cs u st bs[i]) := by
  unfold visits
  rw [List.drop_eq_getElem_cons h, List.foldl_cons]
theorem qrun_step {f k : Nat} {st : List Int × List Nat} {last : Int} (h : k < st.2.length) : qrun cs nb (f + 1) k st last = qrun cs nb f (k + 1) (qstep cs nb k st) (st.1.getD (st.2.getD k 0) 0) := by
  conv => lhs; unfold qrun
  rw [if_pos h]
theorem getD_pos {ts : List Int} {i : Nat} {t : Int} (h : ts.getD i (-1) = t) (h0 : 0 ≤ t) : ts.getD i 0 = t ∧ i < ts.length := by
  by_cases hi : i < ts.length
  · simp [List.getD_eq_getElem?_getD, List.getElem?_eq_getElem hi] at h ⊢
    exact ⟨h, hi⟩
  · simp [List.getD_eq_getElem?_getD, List.getElem?_eq_none (Nat.le_of_not_lt hi)] at h
    omega

/-- What a list of new cells is: all have the time u, and as many burn more. -/
structure New (u : Int) (ts : List Int) (m : List Nat) (c : Nat) : Prop where
  at_ : ∀ i ∈ m, ts.getD i (-1) = u
  lt : ∀ i ∈ m, i < N
  num : burnt ts = c + m.length

theorem New.visit {u : Int} {ts : List Int} {m l : List Nat} {c b : Nat} (h : New (N := N) u ts m c) (hi : BInv N ts l) (hb : b < N) (h0 : 0 ≤ u) :
    New (N := N) u (visit cs u (ts, m) b).1 (visit cs u (ts, m) b).2 c := by
  by_cases hc : cs.getD b false = true ∧ ts.getD b 0 < 0
  · have hbl : b < ts.length := by rw [hi.len]; exact hb
    have hk : ∀ i ∈ m, (ts.set b u).getD i (-1) = u := fun i hm => by
      rw [getD_set _ _ _ _ _ hbl]
      split
      · rfl
      · exact h.at_ i hm
    rw [visit_eq (st := (ts, m)) hc]
    refine ⟨fun i hm => ?_, fun i hm => ?_, ?_⟩
    · simp at hm
      rcases hm with hm | rfl
      · exact hk i hm
      · rw [getD_set _ _ _ _ _ hbl, if_pos rfl]
    · simp at hm
      rcases hm with hm | rfl
      · exact h.lt i hm
      · exact hb
    · rw [burnt_set ts b u hbl hc.2 h0, h.num]; simp; omega
  · rw [visit_ne (st := (ts, m)) hc]
    exact h

theorem New.visits {u : Int} {c : Nat} (h0 : 0 ≤ u) (hu : u ≤ c + 1) : ∀ {bs : List Nat} {ts : List Int} {m : List Nat}, New (N := N) u ts m c → BInv N ts m → (∀ b ∈ bs, b < N) →
    New (N := N) u (visits cs u bs (ts, m)).1 (visits cs u bs (ts, m)).2 c ∧ BInv N (visits cs u bs (ts, m)).1 (visits cs u bs (ts, m)).2 := by
  intro bs
  induction bs with
  | nil => intro ts m h hi _; exact ⟨h, hi⟩
  | cons b bs ih =>
    intro ts m h hi hb
    have h1 := h.visit (cs := cs) hi (hb b (by simp)) h0
    have h2 := hi.visit (cs := cs) (t := u) (hb b (by simp)) h0 (by have := h.num; omega)
    unfold Go.Proofs.Ytejmpijihmmajaa.visits
    rw [List.foldl_cons]
    exact ih h1 h2 (fun x hx => hb x (by simp [hx]))

theorem visits_len {t : Int} {bs : List Nat} : ∀ {st : List Int × List Nat}, (visits cs t bs st).1.length = st.1.length := by
  unfold visits
  induction bs with
  | nil => intro st; rfl
  | cons b bs ih =>
    intro st
    rw [List.foldl_cons, ih]
    unfold Go.Proofs.Ytejmpijihmmajaa.visit
    split <;> simp
theorem level_len {now : List Nat} : ∀ {st : List Int × List Nat}, (level cs nb now st).1.length = st.1.length := by
  unfold level
  induction now with
  | nil => intro st; rfl
  | cons b bs ih => intro st; rw [List.foldl_cons, ih]; exact visits_len
theorem lrun_len {M : Nat} : ∀ {F : Nat} {ts : List Int} {now : List Nat} {last : Int}, ts.length = M → (lrun cs nb F ts now last).1.length = M := by
  intro F
  induction F with
  | zero => intro ts now last h; exact h
  | succ F ih =>
    intro ts now last h
    unfold lrun
    split
    · exact h
    · exact ih (by rw [level_len]; exact h)
theorem level_drop {now : List Nat} {j : Nat} (h : j < now.length) (st : List Int × List Nat) : level cs nb (now.drop j) st = level cs nb (now.drop (j + 1)) (lstep cs nb st now[j]) := by
  unfold level
  rw [List.drop_eq_getElem_cons h, List.foldl_cons]
theorem New.le {u : Int} {ts : List Int} {m : List Nat} {c : Nat} (h : New (N := N) u ts m c) (hi : ts.length = N) : c + m.length ≤ N := by
  have h1 := burnt_le ts
  rw [hi, h.num] at h1
  exact h1
theorem level_new (hnb : ∀ i < N, ∀ b ∈ nb i, b < N) {t : Int} {c : Nat} (h0 : 0 ≤ t) (ht : t ≤ c) : ∀ {now : List Nat} {ts : List Int} {m : List Nat}, (∀ i ∈ now, ts.getD i (-1) = t) → New (N := N) (t + 1) ts m c → BInv N ts m →
    New (N := N) (t + 1) (level cs nb now (ts, m)).1 (level cs nb now (ts, m)).2 c ∧ BInv N (level cs nb now (ts, m)).1 (level cs nb now (ts, m)).2 ∧ (∀ i, 0 ≤ ts.getD i (-1) → (level cs nb now (ts, m)).1.getD i (-1) = ts.getD i (-1)) := by
  intro now
  induction now with
  | nil => intro ts m _ h hi; exact ⟨h, hi, fun _ _ => rfl⟩
  | cons i now ih =>
    intro ts m hn h hi
    have e := getD_pos (hn i (by simp)) h0
    have hiN : i < N := by rw [← hi.len]; exact e.2
    obtain ⟨h1, h2⟩ := New.visits (cs := cs) (by omega) (by omega) h hi (hnb i hiN)
    have hs : lstep cs nb (ts, m) i = visits cs (t + 1) (nb i) (ts, m) := by unfold lstep; rw [e.1]
    have hk : ∀ j, 0 ≤ ts.getD j (-1) → (visits cs (t + 1) (nb i) (ts, m)).1.getD j (-1) = ts.getD j (-1) := fun j hj => visits_keep hj
    obtain ⟨q1, q2, q3⟩ := ih (ts := (visits cs (t + 1) (nb i) (ts, m)).1) (m := (visits cs (t + 1) (nb i) (ts, m)).2) (fun j hj => by rw [hk j (by rw [hn j (by simp [hj])]; exact h0)]; exact hn j (by simp [hj])) h1 h2
    unfold level at q1 q2 q3 ⊢
    rw [List.foldl_cons, hs]
    exact ⟨q1, q2, fun j hj => by rw [q3 j (by rw [hk j hj]; exact hj), hk j hj]⟩

theorem qrun_level {t : Int} (h0 : 0 ≤ t) : ∀ (rest : List Nat) (f : Nat) (pre : List Nat) (ts : List Int) (next : List Nat) (last : Int), (∀ i ∈ rest, ts.getD i (-1) = t) →
    qrun cs nb (f + rest.length) pre.length (ts, pre ++ rest ++ next) last =
      qrun cs nb f (pre.length + rest.length) ((level cs nb rest (ts, next)).1, pre ++ rest ++ (level cs nb rest (ts, next)).2) (if rest = [] then last else t) := by
  intro rest
  induction rest with
  | nil => intro f pre ts next last _; simp [level]
  | cons i rest ih =>
    intro f pre ts next last h
    have e := (getD_pos (h i (by simp)) h0).1
    have hk : (pre ++ (i :: rest) ++ next).getD pre.length 0 = i := by simp [List.getD_eq_getElem?_getD]
    have hq : qstep cs nb pre.length (ts, pre ++ (i :: rest) ++ next) = ((visits cs (t + 1) (nb i) (ts, next)).1, pre ++ (i :: rest) ++ (visits cs (t + 1) (nb i) (ts, next)).2) := by
      unfold qstep
      simp only [hk, e]
      exact visits_app
    have hs : lstep cs nb (ts, next) i = visits cs (t + 1) (nb i) (ts, next) := by unfold lstep; rw [e]
    have hlt : pre.length < (pre ++ (i :: rest) ++ next).length := by simp
    show qrun cs nb ((f + rest.length) + 1) pre.length _ last = _
    conv => lhs; unfold qrun
    rw [if_pos hlt, hq]
    simp only [hk, e]
    have := ih f (pre ++ [i]) (visits cs (t + 1) (nb i) (ts, next)).1 (visits cs (t + 1) (nb i) (ts, next)).2 t (fun j hj => by
      rw [visits_keep (by rw [h j (by simp [hj])]; exact h0)]; exact h j (by simp [hj]))
    simp only [List.length_append, List.length_cons, List.length_nil, List.append_assoc, List.cons_append, List.nil_append, Nat.zero_add] at this ⊢
    rw [this]
    have hl : level cs nb (i :: rest) (ts, next) = level cs nb rest (visits cs (t + 1) (nb i) (ts, next)) := by unfold level; rw [List.foldl_cons, hs]
    rw [hl, if_neg (by simp : ¬ (i :: rest = []))]
    have e2 : pre.length + 1 + rest.length = pre.length + (rest.length + 1) := by omega
    have e3 : (if rest = [] then t else t) = t := by split <;> rfl
    rw [e2, e3]

/-- The queue burns as the levels do. -/
theorem qrun_lrun (hnb : ∀ i < N, ∀ b ∈ nb i, b < N) : ∀ (F : Nat) (ts : List Int) (now pre : List Nat) (last : Int) (f : Nat), BInv N ts (pre ++ now) → burnt ts = (pre ++ now).length → (∀ i ∈ now, ts.getD i (-1) = last + 1) → -1 ≤ last →
    N ≤ f + pre.length → (now ≠ [] → N + 1 ≤ F + burnt ts) → qrun cs nb f pre.length (ts, pre ++ now) last = lrun cs nb F ts now last := by
  intro F
  induction F with
  | zero =>
    intro ts now pre last f hi hb hn hl hf hF
    by_cases hnow : now = []
    · subst hnow
      unfold lrun
      cases f <;> simp [qrun]
    · have h1 := hF hnow
      have h2 := burnt_le ts
      rw [hi.len] at h2
      omega
  | succ F ih =>
    intro ts now pre last f hi hb hn hl hf hF
    by_cases hnow : now = []
    · subst hnow
      unfold lrun
      cases f <;> simp [qrun]
    · have hle := burnt_le ts
      rw [hi.len] at hle
      simp only [List.length_append] at hb
      obtain ⟨f', rfl⟩ : ∃ f', f = f' + now.length := ⟨f - now.length, by omega⟩
      have hmem : ∃ i, i ∈ now := List.exists_mem_of_ne_nil _ hnow
      obtain ⟨i0, hi0⟩ := hmem
      have htb : last + 1 ≤ burnt ts := by
        have h1 := hi.hi i0
        rw [(getD_pos (hn i0 hi0) (by omega)).1] at h1
        exact h1
      have hnew0 : New (N := N) (last + 1 + 1) ts [] (burnt ts) := ⟨fun _ h => by simp at h, fun _ h => by simp at h, by simp⟩
      have hinv0 : BInv N ts [] := ⟨hi.len, fun _ h => by simp at h, hi.lo, hi.hi⟩
      obtain ⟨n1, n2, n3⟩ := level_new (cs := cs) hnb (by omega) htb hn hnew0 hinv0
      have hq := qrun_level (cs := cs) (nb := nb) (t := last + 1) (by omega) now f' pre ts [] last hn
      rw [List.append_nil] at hq
      rw [hq, if_neg hnow]
      conv => rhs; unfold lrun
      rw [if_neg hnow]
      generalize level cs nb now (ts, []) = st at *
      obtain ⟨ts', next⟩ := st
      have hnum := n1.num
      have := ih ts' next (pre ++ now) (last + 1) f' ⟨n2.len, fun x hx => ?_, n2.lo, n2.hi⟩ (by simp at hnum ⊢; omega) n1.at_ (by omega) (by simp; omega) (fun hne => ?_)
      · rw [List.length_append] at this
        exact this
      · simp only [List.mem_append] at hx
        rcases hx with hx | hx
        · exact hi.lt x (by simpa using hx)
        · exact n1.lt x hx
      · have : 0 < next.length := List.length_pos_iff.2 hne
        simp at hnum
        have := hF hnow
        omega
end
end Go.Proofs.Ytejmpijihmmajaa
