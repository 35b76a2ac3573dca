/- Plain law (no program): groups of full cells: all full cells have one, neighbours have the same, sizes are told. Conditions: sides of a cell are symmetric. -/
import Derived.Test.YtejmpijihmmajaaPg
namespace Go.Proofs.Ytejmpijihmmajaa

section
variable {cs : List Bool} {N : Nat} {nb : Nat → List Nat}
/-- From cell to cell by full sides. -/
inductive Lk (cs : List Bool) (nb : Nat → List Nat) (i : Nat) : Nat → Prop
  | refl : cs.getD i false = true → Lk cs nb i i
  | step {a b : Nat} : Lk cs nb i a → b ∈ nb a → cs.getD b false = true → Lk cs nb i b
theorem Lk.full {i j : Nat} (h : Lk cs nb i j) : cs.getD j false = true := by
  cases h with
  | refl h => exact h
  | step _ _ h => exact h
theorem Lk.lt (hnb : ∀ j < N, ∀ b ∈ nb j, b < N) {i j : Nat} (hi : i < N) (h : Lk cs nb i j) : j < N := by
  induction h with
  | refl _ => exact hi
  | step _ hb _ ih => exact hnb _ ih _ hb
theorem Lk.iff {Pr : Nat → Prop} (hnb : ∀ j < N, ∀ b ∈ nb j, b < N) (hcl : ∀ a < N, ∀ b ∈ nb a, cs.getD a false = true → cs.getD b false = true → (Pr a ↔ Pr b)) {i j : Nat} (hi : i < N) (h : Lk cs nb i j) : Pr i ↔ Pr j := by
  induction h with
  | refl _ => exact Iff.rfl
  | step h1 hb hc ih => exact ih.trans (hcl _ (h1.lt hnb hi) _ hb h1.full hc)
theorem Reach.lk {t0 : List Int} {i j : Nat} (hi : cs.getD i false = true) (h : Reach cs nb t0 i j) : Lk cs nb i j := by
  induction h with
  | here => exact .refl hi
  | next _ hb hc _ ih => exact .step ih hb hc
theorem Reach.neg {t0 : List Int} {i j : Nat} (hi : t0.getD i 0 < 0) (h : Reach cs nb t0 i j) : t0.getD j 0 < 0 := by
  cases h with
  | here => exact hi
  | next _ _ _ h => exact h
theorem getD_lt {l : List Int} {j : Nat} (h : j < l.length) : l.getD j 0 = l[j] := by rw [List.getD_eq_getElem?_getD, List.getElem?_eq_getElem h]; rfl
/-- Two lists of one length, alike at each place as far as two tests go. -/
theorem countP_same {α β : Type} {p : α → Bool} {q : β → Bool} : ∀ {a : List α} {b : List β}, a.length = b.length → (∀ (j : Nat) x y, a[j]? = some x → b[j]? = some y → p x = q y) → a.countP p = b.countP q
  | [], [], _, _ => rfl
  | [], _ :: _, h, _ => by simp at h
  | _ :: _, [], h, _ => by simp at h
  | x :: a, y :: b, h, hp => by
    have h0 := hp 0 x y rfl rfl
    have ih := countP_same (p := p) (q := q) (a := a) (b := b) (by simpa using h) (fun j x y hx hy => hp (j + 1) x y hx hy)
    simp only [List.countP_cons, ih, h0]
theorem countP_two {p q r : Int → Bool} : ∀ {a b : List Int}, a.length = b.length → (∀ (j : Nat) x y, a[j]? = some x → b[j]? = some y → (q y = (p x || r y)) ∧ (p x && r y) = false) → b.countP q = a.countP p + b.countP r
  | [], [], _, _ => rfl
  | [], _ :: _, h, _ => by simp at h
  | _ :: _, [], h, _ => by simp at h
  | x :: a, y :: b, h, hp => by
    obtain ⟨h0, h1⟩ := hp 0 x y rfl rfl
    have ih := countP_two (p := p) (q := q) (r := r) (a := a) (b := b) (by simpa using h) (fun j x y hx hy => hp (j + 1) x y hx hy)
    simp only [List.countP_cons, ih, h0]
    cases hpx : p x <;> cases hry : r y <;> simp [hpx, hry] at h1 ⊢ <;> omega
/-- What groups are. -/
structure GOk (cs : List Bool) (N : Nat) (nb : Nat → List Nat) (i : Nat) (ts sz : List Int) : Prop where
  len : ts.length = N
  none_ : ∀ j < N, cs.getD j false = false → ts.getD j 0 < 0
  some_ : ∀ j < N, j < i → cs.getD j false = true → 0 ≤ ts.getD j 0
  hi : ∀ j < N, ts.getD j 0 < sz.length
  side : ∀ j < N, 0 ≤ ts.getD j 0 → ∀ b ∈ nb j, cs.getD b false = true → ts.getD b 0 = ts.getD j 0
  size : ∀ (g : Nat) (z : Int), sz[g]? = some z → z = (ts.countP (fun x => decide (x = (g : Int))) : Nat)
  sum : sz.sum = (burnt ts : Nat)
  link : ∀ j < N, ∀ k < N, 0 ≤ ts.getD j 0 → ts.getD j 0 = ts.getD k 0 → ∃ r < N, Lk cs nb r j ∧ Lk cs nb r k
theorem gok_zero : GOk cs N nb 0 (List.replicate N (-1)) [] := by
  have e : ∀ j < N, (List.replicate N (-1 : Int)).getD j 0 = -1 := fun j hj => by simp [List.getD_eq_getElem?_getD, List.getElem?_replicate, hj]
  refine ⟨by simp, fun j hj _ => by rw [e j hj]; omega, fun j _ h => absurd h (by omega), fun j hj => by rw [e j hj]; simp, fun j hj h => by rw [e j hj] at h; omega, fun g z h => by simp at h, ?_, fun j hj k hk h => by rw [e j hj] at h; omega⟩
  unfold burnt
  have h0 : (List.replicate N (-1 : Int)).countP (fun x => decide (0 ≤ x)) = 0 := List.countP_eq_zero.2 fun x hx => by
    rw [(List.mem_replicate.1 hx).2]
    decide
  rw [h0]
  rfl
theorem gok_more (hnb : ∀ j < N, ∀ b ∈ nb j, b < N) (hsym : ∀ j < N, ∀ b ∈ nb j, j ∈ nb b) {i : Nat} {t0 sz ts : List Int} {D : List Nat} (h : GOk cs N nb i t0 sz) (hi : i < N) (hc : cs.getD i false = true ∧ t0.getD i 0 < 0) (s : Srch cs N nb t0 sz.length i ts D []) :
    GOk cs N nb (i + 1) ts (sz ++ [(D.length : Int)]) := by
  have hm : ∀ j < N, ts.getD j 0 = (sz.length : Int) ↔ j ∈ D := fun j hj => by have := s.mark j hj; simpa using this
  have hD : ∀ j ∈ D, Lk cs nb i j ∧ t0.getD j 0 < 0 ∧ j < N := fun j hj => ⟨(s.reach j (.inl hj)).lk hc.1, (s.reach j (.inl hj)).neg hc.2, s.lt j (.inl hj)⟩
  have hk : ∀ j < N, ts.getD j 0 ≠ (sz.length : Int) → ts.getD j 0 = t0.getD j 0 := s.keep
  have hn0 : (0 : Int) ≤ (sz.length : Int) := by omega
  have hget : ∀ (j : Nat) x y, t0[j]? = some x → ts[j]? = some y → j < N ∧ t0.getD j 0 = x ∧ ts.getD j 0 = y := fun j x y hx hy => by
    have hj := (List.getElem?_eq_some_iff.1 hy).1
    rw [s.len] at hj
    exact ⟨hj, by rw [List.getD_eq_getElem?_getD, hx]; rfl, by rw [List.getD_eq_getElem?_getD, hy]; rfl⟩
  refine ⟨s.len, fun j hj hcj => ?_, fun j hj hji hcj => ?_, fun j hj => ?_, fun j hj h0 b hb hcb => ?_, fun g z hz => ?_, ?_, fun j hj k hk' h0 e => ?_⟩
  · by_cases e : ts.getD j 0 = (sz.length : Int)
    · have := (hD j ((hm j hj).1 e)).1.full
      rw [hcj] at this
      cases this
    · rw [hk j hj e]
      exact h.none_ j hj hcj
  · by_cases e : ts.getD j 0 = (sz.length : Int)
    · omega
    · by_cases hji' : j = i
      · subst hji'
        have hr : j ∈ D := by have := s.root; simpa using this
        exact absurd ((hm j hj).2 hr) e
      · rw [hk j hj e]
        exact h.some_ j hj (by omega) hcj
  · rw [List.length_append, List.length_singleton]
    by_cases e : ts.getD j 0 = (sz.length : Int)
    · omega
    · rw [hk j hj e]
      have := h.hi j hj
      omega
  · have hbN := hnb j hj b hb
    by_cases e : ts.getD j 0 = (sz.length : Int)
    · have hjD := (hm j hj).1 e
      rw [e]
      by_cases eb : ts.getD b 0 = (sz.length : Int)
      · exact eb
      · exfalso
        have hb0 := s.full j hjD b hb hcb
        rw [hk b hbN eb] at hb0
        have := h.side b hbN hb0 j (hsym j hj b hb) (hD j hjD).1.full
        have hneg := (hD j hjD).2.1
        omega
    · have ht0 := hk j hj e
      rw [ht0] at h0 ⊢
      have hb1 := h.side j hj h0 b hb hcb
      by_cases eb : ts.getD b 0 = (sz.length : Int)
      · have hneg := (hD b ((hm b hbN).1 eb)).2.1
        omega
      · rw [hk b hbN eb]
        exact hb1
  · rw [List.getElem?_append] at hz
    split at hz
    · rename_i hg
      rw [h.size g z hz]
      congr 1
      refine countP_same (by rw [h.len, s.len]) fun j x y hx hy => ?_
      obtain ⟨hj, rfl, rfl⟩ := hget j x y hx hy
      by_cases e : ts.getD j 0 = (sz.length : Int)
      · have hneg := (hD j ((hm j hj).1 e)).2.1
        rw [e]
        have h1 : ¬ t0.getD j 0 = (g : Int) := by omega
        have h2 : ¬ (sz.length : Int) = (g : Int) := by omega
        generalize t0.getD j 0 = q at h1
        simp [h1, h2]
      · rw [hk j hj e]
    · rename_i hg
      have hge : g = sz.length := by
        rcases Nat.lt_or_ge (g - sz.length) 1 with hlt | hge
        · omega
        · rw [List.getElem?_eq_none (by simp; omega)] at hz
          cases hz
      subst hge
      simp at hz
      subst hz
      have hsplit : burnt ts = burnt t0 + ts.countP (fun x => decide (x = (sz.length : Int))) := by
        unfold burnt
        refine countP_two (by rw [h.len, s.len]) fun j x y hx hy => ?_
        obtain ⟨hj, rfl, rfl⟩ := hget j x y hx hy
        by_cases e : ts.getD j 0 = (sz.length : Int)
        · have hneg := (hD j ((hm j hj).1 e)).2.1
          rw [e]
          generalize t0.getD j 0 = q at hneg
          simp
          omega
        · rw [hk j hj e]
          have e' : ¬ t0.getD j 0 = (sz.length : Int) := by rw [← hk j hj e]; exact e
          generalize t0.getD j 0 = q at e'
          simp [e']
      have := s.num
      simp at this
      omega
  · rw [List.sum_append, h.sum]
    have := s.num
    simp at this
    simp
    omega
  · by_cases e' : ts.getD j 0 = (sz.length : Int)
    · exact ⟨i, hi, (hD j ((hm j hj).1 e')).1, (hD k ((hm k hk').1 (e ▸ e'))).1⟩
    · have ek : ¬ ts.getD k 0 = (sz.length : Int) := by rw [← e]; exact e'
      rw [hk j hj e'] at h0 e
      rw [hk k hk' ek] at e
      exact h.link j hj k hk' h0 e
theorem gok_of (hnb : ∀ j < N, ∀ b ∈ nb j, b < N) (hsym : ∀ j < N, ∀ b ∈ nb j, j ∈ nb b) : ∀ {i : Nat} {ts sz : List Int}, i ≤ N → Grp cs N nb i ts sz → GOk cs N nb i ts sz := by
  intro i
  induction i with
  | zero => intro ts sz _ h; cases h; exact gok_zero
  | succ i ih =>
    intro ts sz hi h
    cases h with
    | skip a c =>
      have q := ih (by omega) a
      refine ⟨q.len, q.none_, fun j hj hji hcj => ?_, q.hi, q.side, q.size, q.sum, q.link⟩
      by_cases e : j = i
      · subst e
        by_cases h0 : 0 ≤ ts.getD j 0
        · exact h0
        · exact absurd ⟨hcj, by omega⟩ c
      · exact q.some_ j hj (by omega) hcj
    | more a c s => exact gok_more hnb hsym (ih (by omega) a) (by omega) c s
theorem burnt_full {ts sz : List Int} (h : GOk cs N nb N ts sz) (hl : cs.length = N) : burnt ts = cs.countP (fun b => b) := by
  unfold burnt
  refine countP_same (by rw [h.len, hl]) fun j x y hx hy => ?_
  have hj := (List.getElem?_eq_some_iff.1 hy).1
  rw [hl] at hj
  have ex : ts.getD j 0 = x := by rw [List.getD_eq_getElem?_getD, hx]; rfl
  have ey : cs.getD j false = y := by rw [List.getD_eq_getElem?_getD, hy]; rfl
  cases y with
  | true =>
    have := h.some_ j hj hj ey
    rw [ex] at this
    simpa using this
  | false =>
    have := h.none_ j hj ey
    rw [ex] at this
    simp
    omega
end
end Go.Proofs.Ytejmpijihmmajaa
